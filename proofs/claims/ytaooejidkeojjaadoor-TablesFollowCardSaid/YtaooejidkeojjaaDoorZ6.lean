import Derived.Test.YtaooejidkeojjaaDoorProg
import Derived.Below
import Derived.Deep.Draws
import Derived.Deep.AppendLies
import Derived.Maps.AppendAt
import Derived.OwnWalk
import Derived.Laws.BytesArg
import Derived.Laws.MakeOwn
import Derived.Laws.OwnMore
import Derived.Deep.OwnRows
import Derived.Tactics
import Derived.Lib.ConvBytes
import Derived.Laws.Slices
import Derived.WalkKit
import Derived.KernelRfl
import Derived.RowKit3
import Derived.Deep.LoopGhost
import Derived.Deep.QuietTactic
import Derived.BigQuiet
import Derived.WideLaws
import Derived.Deep.DeepCutAuto
import Derived.Deep.CutBlock
import Derived.Deep.RegionHeld3
import Derived.Laws.Rows
import Derived.Lib.AppendStr
import Derived.ArgAppend
import Derived.Laws.IdiomCopy
import Derived.OrdersHeld
import Derived.Laws.BitsLemmas
import Derived.RowKit
import Derived.Test.YtaooejidkeojjaaDoorZ4
import Derived.Test.YtaooejidkeojjaaDoorWWords
import Derived.Test.YtaooejidkeojjaaDoorZ5
import Derived.Laws.StructEq
import Derived.Test.YtaooejidkeojjaaDoorWRepsOne
import Derived.Test.YtaooejidkeojjaaDoorZ1
import Derived.Laws.EntriesVeiled
namespace Go.Proofs.YtaooejidkeojjaaDoor.PLi
open Go.RowKit Go.Proofs.YtaooejidkeojjaaDoorW.PrintWords Go.Proofs.YtaooejidkeojjaaDoorW.PrintLast Go.Proofs.YtaooejidkeojjaaDoorW.PrintMore
attribute [local go_sem] max2_int min2_int max_two min_two max_three min_three max_four min_four   -- for this text's walks alone
set_option linter.unusedVariables false
set_option linter.unusedSimpArgs false
theorem info41 : (Tryd.prog.info? 41).map (fun i => (i.zero, i.size, i.bytes)) = some (some (.agg #[(.int .i64 0), (.int .i64 0)]), 2, 16) := by kernel_rfl
structure S49 where
  f0 : Int
  f1 : (List Int)
  f2 : Bool
def z49 : S49 := ⟨(0 : Int), ([] : List Int), false⟩
def k49 : Kd S49 := Kd.iso (Kd.pair (Kd.int .i64) (Kd.pair (Kd.slice 3 (Kd.int .i64)) Kd.bool)) (fun x : S49 => (x.f0, x.f1, x.f2))
theorem k49_open {w : World} {x : S49} {cs : List Value} (h : k49.K w x cs) : ∃ A1 c1, cs = [.int .i64 x.f0, .slice A1 x.f1.length c1, .bool x.f2] ∧ x.f1.length ≤ c1 ∧ (Kd.int .i64).C w A1 x.f1.length x.f1 := by
  obtain ⟨_, _, rfl, rfl, ⟨_, _, rfl, ⟨A1, c1, rfl, l1, g1⟩, rfl⟩⟩ := h
  exact ⟨A1, c1, rfl, l1, g1⟩
theorem k49_mkM (w : World) (base : Nat) (ok : Nat → Prop) (x : S49) {v1 : Value} (g1 : (Kd.int .i64).R 3 w base ok v1 x.f1) : k49.M w base ok x [.int .i64 x.f0, v1, .bool x.f2] := ⟨[.int .i64 x.f0], [v1, .bool x.f2], rfl, rfl, ⟨[v1], [.bool x.f2], rfl, ⟨v1, rfl, g1⟩, rfl⟩⟩
def rd_T49 (xs : List S49) (i : Int) : S49 := xs.getD i.toNat z49
theorem at_T49 {w : World} {A : Option Addr} {n : Nat} {xs : List S49} (h : Kd.C k49 w A n xs) (i : Int) (h0 : 0 ≤ i) (h1 : i < n) : ∃ ad A1 c1, A = some ad ∧ w.cell? (ad.add (i.toNat * 3)) = some (.int .i64 (rd_T49 xs i).f0) ∧ w.cell? ⟨(ad.add (i.toNat * 3)).block, (ad.add (i.toNat * 3)).off + 1, none⟩ = some (.slice A1 (rd_T49 xs i).f1.length c1) ∧ w.cell? ⟨(ad.add (i.toNat * 3)).block, (ad.add (i.toNat * 3)).off + 2, none⟩ = some (.bool (rd_T49 xs i).f2) ∧ (rd_T49 xs i).f1.length ≤ c1 ∧ (Kd.int .i64).C w A1 (rd_T49 xs i).f1.length (rd_T49 xs i).f1 := by
  obtain ⟨ad, c, e, _, hK, hc0⟩ := Kd.C_get h z49 i h0 h1
  have hc : ∀ j u, c[j]? = some u → w.cell? (ad.add (i.toNat * 3 + j)) = some u := hc0
  obtain ⟨A1, c1, rfl, l1, g1⟩ := k49_open hK
  exact ⟨ad, A1, c1, e, hc 0 _ rfl, by rw [← add_field _ _ 1 (by omega)]; exact hc 1 _ rfl, by rw [← add_field _ _ 2 (by omega)]; exact hc 2 _ rfl, l1, g1⟩
structure S46 where
  f0 : Int
  f1 : (List Int)
  f2 : Bool
def z46 : S46 := ⟨(0 : Int), ([] : List Int), false⟩
def k46 : Kd S46 := Kd.iso (Kd.pair (Kd.int .i64) (Kd.pair (Kd.slice 3 (Kd.int .i64)) Kd.bool)) (fun x : S46 => (x.f0, x.f1, x.f2))
theorem k46_open {w : World} {x : S46} {cs : List Value} (h : k46.K w x cs) : ∃ A1 c1, cs = [.int .i64 x.f0, .slice A1 x.f1.length c1, .bool x.f2] ∧ x.f1.length ≤ c1 ∧ (Kd.int .i64).C w A1 x.f1.length x.f1 := by
  obtain ⟨_, _, rfl, rfl, ⟨_, _, rfl, ⟨A1, c1, rfl, l1, g1⟩, rfl⟩⟩ := h
  exact ⟨A1, c1, rfl, l1, g1⟩
theorem k46_openM {w : World} {base : Nat} {ok : Nat → Prop} {x : S46} {cs : List Value} (h : k46.M w base ok x cs) : ∃ v1, cs = [.int .i64 x.f0, v1, .bool x.f2] ∧ (Kd.int .i64).R 3 w base ok v1 x.f1 := by
  obtain ⟨_, _, rfl, rfl, ⟨_, _, rfl, ⟨v1, rfl, g1⟩, rfl⟩⟩ := h
  exact ⟨v1, rfl, g1⟩
def rd_T46 (xs : List S46) (i : Int) : S46 := xs.getD i.toNat z46
theorem at_T46 {w : World} {A : Option Addr} {n : Nat} {xs : List S46} (h : Kd.C k46 w A n xs) (i : Int) (h0 : 0 ≤ i) (h1 : i < n) : ∃ ad A1 c1, A = some ad ∧ w.cell? (ad.add (i.toNat * 3)) = some (.int .i64 (rd_T46 xs i).f0) ∧ w.cell? ⟨(ad.add (i.toNat * 3)).block, (ad.add (i.toNat * 3)).off + 1, none⟩ = some (.slice A1 (rd_T46 xs i).f1.length c1) ∧ w.cell? ⟨(ad.add (i.toNat * 3)).block, (ad.add (i.toNat * 3)).off + 2, none⟩ = some (.bool (rd_T46 xs i).f2) ∧ (rd_T46 xs i).f1.length ≤ c1 ∧ (Kd.int .i64).C w A1 (rd_T46 xs i).f1.length (rd_T46 xs i).f1 := by
  obtain ⟨ad, c, e, _, hK, hc0⟩ := Kd.C_get h z46 i h0 h1
  have hc : ∀ j u, c[j]? = some u → w.cell? (ad.add (i.toNat * 3 + j)) = some u := hc0
  obtain ⟨A1, c1, rfl, l1, g1⟩ := k46_open hK
  exact ⟨ad, A1, c1, e, hc 0 _ rfl, by rw [← add_field _ _ 1 (by omega)]; exact hc 1 _ rfl, by rw [← add_field _ _ 2 (by omega)]; exact hc 2 _ rfl, l1, g1⟩
def rd_L7 (xs : List (List S46)) (i : Int) : (List S46) := xs.getD i.toNat ([] : List S46)
theorem at_L7 {w : World} {A : Option Addr} {n : Nat} {xs : List (List S46)} (h : Kd.C (Kd.slice 46 k46) w A n xs) (i : Int) (h0 : 0 ≤ i) (h1 : i < n) : ∃ ad A0 c0, A = some ad ∧ w.cell? (ad.add i.toNat) = some (.slice A0 (rd_L7 xs i).length c0) ∧ (rd_L7 xs i).length ≤ c0 ∧ k46.C w A0 (rd_L7 xs i).length (rd_L7 xs i) := by
  obtain ⟨ad, c, e, _, hK, hc0⟩ := Kd.C_get h ([] : List S46) i h0 h1
  have hc : ∀ j u, c[j]? = some u → w.cell? (ad.add (i.toNat * 1 + j)) = some u := hc0
  obtain ⟨A0, c0, rfl, l0, g0⟩ := hK
  exact ⟨ad, A0, c0, e, by have hq := hc 0 _ rfl; rwa [Nat.mul_one, Nat.add_zero] at hq, l0, g0⟩
structure S41 where
  f0 : Int
  f1 : Int
def z41 : S41 := ⟨(0 : Int), (0 : Int)⟩
def k41 : Kd S41 := Kd.iso (Kd.pair (Kd.int .i64) (Kd.int .i64)) (fun x : S41 => (x.f0, x.f1))
theorem k41_openM {w : World} {base : Nat} {ok : Nat → Prop} {x : S41} {cs : List Value} (h : k41.M w base ok x cs) : cs = [.int .i64 x.f0, .int .i64 x.f1] := by
  obtain ⟨_, _, rfl, rfl, rfl⟩ := h
  exact rfl
theorem k41_mkM (w : World) (base : Nat) (ok : Nat → Prop) (x : S41)  : k41.M w base ok x [.int .i64 x.f0, .int .i64 x.f1] := ⟨[.int .i64 x.f0], [.int .i64 x.f1], rfl, rfl, rfl⟩
end Go.Proofs.YtaooejidkeojjaaDoor.PLi
namespace Go.Proofs.YtaooejidkeojjaaDoor.PLi
open Go.RowKit Go.Proofs.YtaooejidkeojjaaDoorW.PrintWords Go.Proofs.YtaooejidkeojjaaDoorW.PrintLast Go.Proofs.YtaooejidkeojjaaDoorW.PrintMore
attribute [local go_sem] max2_int min2_int max_two min_two max_three min_three max_four min_four   -- for this text's walks alone
set_option linter.unusedVariables false
set_option linter.unusedSimpArgs false
def toPr (x : S49) : H.Pr := ⟨x.f0, x.f1, x.f2⟩
def toGr (a b c : Int) (l : List S49) : H.Gr := ⟨a, b, c, l.map toPr⟩
theorem rdI_of {w : World} {A : Option Addr} {n : Nat} {xs : List Int} (h : (Kd.int .i64).C w A n xs) : H.Rd H.eI 1 w w.heap.size A xs := by
  intro i hi
  obtain ⟨h1, h2, h3⟩ := h
  obtain ⟨ad, e, hc⟩ := h3 (by omega)
  obtain ⟨c, _, hc1, hc2⟩ := hc i _ (List.getElem?_eq_getElem hi)
  have hc1' : c = [.int .i64 xs[i]] := hc1
  subst hc1'
  have h0 : w.cell? (ad.add (i * 1)) = some (.int .i64 xs[i]) := hc2 0 _ rfl
  refine ⟨ad, e, ?_, fun j u hu => ?_⟩
  · have := H.cell_lt h0; rwa [H.add_block] at this
  · have hj : j = 0 := by
      rcases j with _ | j
      · rfl
      · simp [H.eI] at hu
    subst hj
    have hu' : u = .int .i64 xs[i] := by simpa [H.eI] using hu.symm
    subst hu'
    have e0 : ∀ x : Addr, x.add 0 = x := fun x => by simp [Addr.add]
    rw [e0]
    exact h0
theorem rdP_of {w : World} {A : Option Addr} {l : List S49} (h : Kd.C k49 w A l.length l) : H.RdP w w.heap.size A (l.map toPr) := by
  intro i hi
  have hi' : i < l.length := by simpa using hi
  obtain ⟨ad, A1, c1, e, c0, k1, k2, hl, hr⟩ := at_T49 h (i : Int) (by omega) (by omega)
  have hx : rd_T49 l (i : Int) = l[i] := by simp [rd_T49, List.getD_eq_getElem?_getD, hi']
  rw [hx] at c0 k1 k2 hl hr
  simp only [Int.toNat_natCast] at c0 k1 k2
  refine ⟨ad, A1, c1, e, ?_, ?_, ?_, ?_, ?_, ?_⟩
  · have := H.cell_lt c0; rwa [H.add_block] at this
  · simpa [toPr] using c0
  · simpa [toPr] using k1
  · simpa [toPr] using k2
  · simpa [toPr] using hl
  · simpa [toPr] using rdI_of hr
theorem grIn_of {w : World} {A : Option Addr} {c : Nat} {x y z : Int} {l : List S49} (h : Kd.C k49 w A l.length l) (hc : l.length ≤ c) : H.GrIn w (toGr x y z l) A c := by
  refine ⟨by simpa [toGr] using hc, by have := Kd.C_max h; simpa [toGr] using this, fun p hp => ?_, rdP_of h⟩
  obtain ⟨i, hi, rfl⟩ := List.getElem_of_mem hp
  have hi' : i < l.length := by simpa [toGr] using hi
  obtain ⟨ad, A1, c1, e, c0, k1, k2, hl, hr⟩ := at_T49 h (i : Int) (by omega) (by omega)
  have hx : rd_T49 l (i : Int) = l[i] := by simp [rd_T49, List.getD_eq_getElem?_getD, hi']
  rw [hx] at hr
  have := Kd.C_max hr
  simpa [toGr, toPr] using this
theorem grV_of (A : Option Addr) (c : Nat) (x y z : Int) (l : List S49) : H.grV (toGr x y z l) A c = .agg #[.int .i64 x, .int .i64 y, .int .i64 z, .slice A l.length c] := by simp [H.grV, toGr]
def unPr (p : H.Pr) : S49 := ⟨p.head, p.body, p.right⟩
theorem rdI_to {w : World} {B : Nat} {A : Option Addr} {xs : List Int} (h : H.Rd H.eI 1 w B A xs) (hl : xs.length ≤ 9223372036854775807) : (Kd.int .i64).C w A xs.length xs := by
  refine ⟨rfl, hl, fun hn => ?_⟩
  obtain ⟨ad, e, _, _⟩ := h 0 hn
  refine ⟨ad, e, fun j p hj => ?_⟩
  obtain ⟨hj1, rfl⟩ := List.getElem?_eq_some_iff.1 hj
  obtain ⟨ad', e', _, hc⟩ := h j hj1
  rw [e] at e'
  injection e' with e'
  subst e'
  refine ⟨[.int .i64 xs[j]], rfl, rfl, fun i u hu => ?_⟩
  rcases i with _ | i
  · have hu' : u = .int .i64 xs[j] := by simpa using hu.symm
    subst hu'
    have e0 : ∀ x : Addr, x.add 0 = x := fun x => by simp [Addr.add]
    have := hc 0 _ (show (H.eI xs[j])[0]? = some (.int .i64 xs[j]) from rfl)
    rw [e0] at this
    exact this
  · simp at hu
noncomputable def rootstocklaw14_Sums.f  : Option (Int × Int × Int × (List (S49))) := some (2, 3, 2, (([(⟨2, (([2, 1, 2] : List Int)), false⟩ : S49), (⟨2, (([0] : List Int)), false⟩ : S49)] : List (S49))))
theorem own_blk {W : World} {g B n size : Nat} {e : TypeId} {cs : Array Value} (h : H.Blk W g e cs) (hB : B ≤ g) (hm : n ≤ maxLen) (hs : cs.size = n * size) : W.ownsRow B e size (.slice (some ⟨g, 0, none⟩) n n) n cs.toList :=
  ⟨by simpa using hs, .inr ⟨g, n, cs, rfl, hB, h, Nat.le_refl _, hm, hs, List.take_of_length_le (by rw [Array.length_toList, hs]; exact Nat.le_refl _)⟩⟩
set_option maxHeartbeats 4000000 in
set_option maxRecDepth 100000 in
theorem sums_walk (w : World) : Calls Tryd.prog 25 #[] w fun e W => e = .returned (.agg #[.int .i64 2, .int .i64 3, .int .i64 2, .slice (some ⟨w.heap.size + 3, 0, none⟩) 2 2]) ∧ H.Blk W (w.heap.size + 1) 3 #[.int .i64 2, .int .i64 1, .int .i64 2] ∧ H.Blk W (w.heap.size + 2) 3 #[.int .i64 0] ∧
    H.Blk W (w.heap.size + 3) 49 #[.int .i64 2, .slice (some ⟨w.heap.size + 1, 0, none⟩) 3 3, .bool false, .int .i64 2, .slice (some ⟨w.heap.size + 2, 0, none⟩) 1 1, .bool false] ∧ Below w.heap.size w W := by
  go_enter Tryd.func25, Tryd.ntmps25
  go_wp2
  refine bodyPost_ret (results_cell_row rfl _ _ w.heap.size 24 #[.int .i64 2, .int .i64 3, .int .i64 2, .slice (some ⟨w.heap.size + 3, 0, none⟩) 2 2] (0, 0) _ rfl (((H.Blk.new _ _ _).alloc _).alloc _ |>.alloc _) Tryd.underlying24 rfl (by kernel_rfl)) rfl ?_
  refine ⟨rfl, ((H.Blk.newAt (by simp)).alloc _).alloc _, (H.Blk.newAt (by simp)).alloc _, H.Blk.newAt (by simp), ((((Below.refl _ _).alloc (Nat.le_refl _) _).alloc (by simp) _).alloc (by simp; omega) _).alloc (by simp; omega) _⟩
theorem rootstocklaw14_Sums.calls  (r1 : Int) (r2 : Int) (r3 : Int) (r4 : List (S49)) (w : World) (h : rootstocklaw14_Sums.f  = some (r1, r2, r3, r4)) :
    Calls Tryd.prog 25 #[] w fun e w' => ∃ v3_ : Value, e = .returned (.agg #[.int .i64 r1, .int .i64 r2, .int .i64 r3, v3_]) ∧ Kd.R k49 49 w' w.heap.size (fun _ => True) v3_ r4 ∧ Below w.heap.size w w' := by
  have h' := Option.some.inj h
  simp only [Prod.mk.injEq] at h'
  obtain ⟨rfl, rfl, rfl, rfl⟩ := h'
  refine (sums_walk w).mono ?_
  rintro e W ⟨rfl, b1, b2, b3, hb⟩
  refine ⟨_, rfl, ⟨fun k hk => trivial, _, own_blk b3 (by omega) (by decide) rfl, ?_⟩, hb⟩
  · have r1 : (Kd.int .i64).R 3 W w.heap.size (fun k => True ∧ some k ≠ (Value.slice (some ⟨w.heap.size + 3, 0, none⟩) 2 2).ownBlock) (.slice (some ⟨w.heap.size + 1, 0, none⟩) 3 3) [2, 1, 2] := Kd.R_of_own (own_blk b1 (by omega) (by decide) rfl) (fun k hk => by simp [Value.ownBlock] at hk ⊢; omega)
    have r2 : (Kd.int .i64).R 3 W w.heap.size (fun k => True ∧ some k ≠ (Value.slice (some ⟨w.heap.size + 3, 0, none⟩) 2 2).ownBlock) (.slice (some ⟨w.heap.size + 2, 0, none⟩) 1 1) [0] := Kd.R_of_own (own_blk b2 (by omega) (by decide) rfl) (fun k hk => by simp [Value.ownBlock] at hk ⊢; omega)
    exact Reps.c3 (k49_mkM _ _ _ ⟨2, [2, 1, 2], false⟩ r1) (Reps.c3 (k49_mkM _ _ _ ⟨2, [0], false⟩ r2) (Reps.none _ _))
def unAc (x : H.Ac) : S46 := ⟨x.sh, x.rd, x.ac⟩
def tabP (g : H.Gr) : Int × Int × Int × List (S49) × List (List (S46)) × List (List Int) × Int :=
  if H.checkI g ≠ 0 then (0, 0, 0, [], [], [], H.checkI g) else if (H.statesM g).full = true then (0, 0, 0, [], [], [], 3) else
  (g.T, g.S, g.st, g.ps.map unPr, (H.statesM g).sts.map (fun s => (H.actsM g (H.firstEnd g) s).map unAc), (H.statesM g).sts.map H.StD.led, 0)
theorem R_map {α β : Type} {d : Kd α} {d' : Kd β} {e : Nat} {w : World} {base : Nat} {ok : Nat → Prop} {v : Value} {xs : List α} (f : α → β) (hs : d'.sz = d.sz) (hM : ∀ ok x cs, d.M w base ok x cs → d'.M w base ok (f x) cs) (h : d.R e w base ok v xs) : d'.R e w base ok v (xs.map f) := by
  obtain ⟨h0, inner, ho, hr⟩ := h
  refine ⟨h0, inner, by rw [hs, List.length_map]; exact ho, by rw [hs, List.length_map]; exact hr.1, fun j p hj => ?_⟩
  rw [List.getElem?_map] at hj
  obtain ⟨x, hx, rfl⟩ := Option.map_eq_some_iff.1 hj
  rw [hs]
  exact hM _ _ _ (hr.2 j x hx)
noncomputable def tables_Of.f (a0_0 : Int) (a0_1 : Int) (a0_2 : Int) (l0_3 : List (S49)) : Option (Int × Int × Int × List (S49) × List (List (S46)) × List (List Int) × Int) := some (tabP (toGr a0_0 a0_1 a0_2 l0_3))
theorem tables_Of.calls (a0_0 : Int) (a0_1 : Int) (a0_2 : Int) (A0_3 : Option Addr) (c0_3 : Nat) (l0_3 : List (S49)) (r1 : Int) (r2 : Int) (r3 : Int) (r4 : List (S49)) (r5 : List (List (S46))) (r6 : List (List Int)) (r7 : Int) (w : World) (hr0_3 : Kd.C k49 w A0_3 l0_3.length l0_3) (hc0_3 : l0_3.length ≤ c0_3) (h : tables_Of.f a0_0 a0_1 a0_2 l0_3 = some (r1, r2, r3, r4, r5, r6, r7)) (hl_ : H.Laid w) :
    Calls Tryd.prog 12 #[.agg #[.int .i64 a0_0, .int .i64 a0_1, .int .i64 a0_2, .slice A0_3 l0_3.length c0_3]] w fun e w' => ∃ v3_ v4_ v5_ : Value, e = .returned (.tuple #[.agg #[.int .i64 r1, .int .i64 r2, .int .i64 r3, v3_, v4_, v5_], .int .i64 r7]) ∧ Kd.R k49 49 w' w.heap.size (fun _ => True) v3_ r4 ∧ Kd.R (Kd.slice 46 k46) 37 w' w.heap.size (fun _ => True) v4_ r5 ∧ Kd.R (Kd.slice 3 (Kd.int .i64)) 44 w' w.heap.size (fun _ => True) v5_ r6 ∧ Below w.heap.size w w' := by
  have h' := Option.some.inj h
  rw [← grV_of]
  refine (H.of_tab _ _ _ w (grIn_of hr0_3 hc0_3) hl_).mono ?_
  rintro e w' ⟨hb, hp⟩
  unfold tabP at h'
  rcases hp with ⟨h1, rfl⟩ | ⟨h1, h2, rfl⟩ | ⟨h1, h2, vP, vA, vG, rfl, hP, hA, hG⟩
  · rw [if_pos h1] at h'
    simp only [Prod.mk.injEq] at h'
    obtain ⟨rfl, rfl, rfl, rfl, rfl, rfl, rfl⟩ := h'
    exact ⟨_, _, _, rfl, Kd.R_nil _ _ _ _ _, Kd.R_nil _ _ _ _ _, Kd.R_nil _ _ _ _ _, hb⟩
  · rw [if_neg (fun e => e h1), if_pos h2] at h'
    simp only [Prod.mk.injEq] at h'
    obtain ⟨rfl, rfl, rfl, rfl, rfl, rfl, rfl⟩ := h'
    exact ⟨_, _, _, rfl, Kd.R_nil _ _ _ _ _, Kd.R_nil _ _ _ _ _, Kd.R_nil _ _ _ _ _, hb⟩
  · rw [if_neg (fun e => e h1), if_neg (by rw [h2]; exact Bool.false_ne_true)] at h'
    simp only [Prod.mk.injEq] at h'
    obtain ⟨rfl, rfl, rfl, rfl, rfl, rfl, rfl⟩ := h'
    refine ⟨vP, vA, vG, rfl, R_map unPr rfl (fun _ _ _ h => h) hP, ?_, hG, hb⟩
    have := R_map (d := H.kRow) (d' := Kd.slice 46 k46) (fun l : List H.Ac => l.map unAc) rfl (fun ok x cs ⟨v, e, hv⟩ => ⟨v, e, R_map unAc rfl (fun _ _ _ h => h) hv⟩) hA
    rw [List.map_map] at this
    exact this
mutual
noncomputable def tables_Clashes.l0 : Nat → List (S41) → List (List (S46)) → Int → Int → Option ((List (S41)))
  | 0, _, _, _, _ => none
  | k + 1, x3, x10, x11, x12 => if x12 < x11 then (if 0 ≤ x12 then (if x12 < (x10.length : Int) then (tables_Clashes.l1 k x3 x12 x10 x11 x12 (rd_L7 x10 x12) ((rd_L7 x10 x12).length : Int) 0) else (none)) else (none)) else (some x3)
noncomputable def tables_Clashes.l1 : Nat → List (S41) → Int → List (List (S46)) → Int → Int → List (S46) → Int → Int → Option ((List (S41)))
  | 0, _, _, _, _, _, _, _, _ => none
  | k + 1, x3, x4, x10, x11, x12, x17, x18, x19 => if x19 < x18 then (if 0 ≤ x19 then (if x19 < (x17.length : Int) then (if ((rd_T46 x17 x19).f0) ≥ 0 then (tables_Clashes.j2 k x3 x4 x19 (wrap64 ((((rd_T46 x17 x19).f1).length : Int) + 1)) x10 x11 x12 x17 x18 x19 ((rd_T46 x17 x19).f0) ((rd_T46 x17 x19).f1) ((rd_T46 x17 x19).f2)) else (tables_Clashes.j2 k x3 x4 x19 (((rd_T46 x17 x19).f1).length : Int) x10 x11 x12 x17 x18 x19 ((rd_T46 x17 x19).f0) ((rd_T46 x17 x19).f1) ((rd_T46 x17 x19).f2))) else (none)) else (none)) else (tables_Clashes.l0 k x3 x10 x11 (wrap64 (x12 + 1)))
noncomputable def tables_Clashes.j2 : Nat → List (S41) → Int → Int → Int → List (List (S46)) → Int → Int → List (S46) → Int → Int → Int → List Int → Bool → Option ((List (S41)))
  | 0, _, _, _, _, _, _, _, _, _, _, _, _, _ => none
  | k + 1, x3, x4, x6, x8, x10, x11, x12, x17, x18, x19, x105000, x105001, x105002 => if x105002 = true then (if (wrap64 (x8 + 1)) > 1 then (if x3.length < 8796093022208 then (tables_Clashes.l1 k (x3 ++ [(⟨x4, x6⟩ : S41)]) x4 x10 x11 x12 x17 x18 (wrap64 (x19 + 1))) else (none)) else (tables_Clashes.l1 k x3 x4 x10 x11 x12 x17 x18 (wrap64 (x19 + 1)))) else (if x8 > 1 then (if x3.length < 8796093022208 then (tables_Clashes.l1 k (x3 ++ [(⟨x4, x6⟩ : S41)]) x4 x10 x11 x12 x17 x18 (wrap64 (x19 + 1))) else (none)) else (tables_Clashes.l1 k x3 x4 x10 x11 x12 x17 x18 (wrap64 (x19 + 1))))
end
noncomputable def tables_Clashes.f (k : Nat) (a0_0 : Int) (a0_1 : Int) (a0_2 : Int) (l0_3 : List (S49)) (l0_4 : List (List (S46))) (l0_5 : List (List Int)) : Option ((List (S41))) := tables_Clashes.l0 k ([] : List (S41)) l0_4 (l0_4.length : Int) 0
set_option maxHeartbeats 8000000 in
set_option maxRecDepth 100000 in
theorem tables_Clashes.calls (k : Nat) (a0_0 : Int) (a0_1 : Int) (a0_2 : Int) (A0_3 : Option Addr) (c0_3 : Nat) (l0_3 : List (S49)) (A0_4 : Option Addr) (c0_4 : Nat) (l0_4 : List (List (S46))) (A0_5 : Option Addr) (c0_5 : Nat) (l0_5 : List (List Int)) (r : List (S41)) (w : World) (hr0_3 : Kd.C k49 w A0_3 l0_3.length l0_3) (hc0_3 : l0_3.length ≤ c0_3) (hr0_4 : Kd.C (Kd.slice 46 k46) w A0_4 l0_4.length l0_4) (hc0_4 : l0_4.length ≤ c0_4) (hr0_5 : Kd.C (Kd.slice 3 (Kd.int .i64)) w A0_5 l0_5.length l0_5) (hc0_5 : l0_5.length ≤ c0_5) (h : tables_Clashes.f k a0_0 a0_1 a0_2 l0_3 l0_4 l0_5 = some r) :
    Calls Tryd.prog 15 #[.agg #[.int .i64 a0_0, .int .i64 a0_1, .int .i64 a0_2, .slice A0_3 l0_3.length c0_3, .slice A0_4 l0_4.length c0_4, .slice A0_5 l0_5.length c0_5]] w fun e w' => ∃ v0_ : Value, e = .returned (v0_) ∧ Kd.R k41 41 w' w.heap.size (fun _ => True) v0_ r ∧ Below w.heap.size w w' := by
 have hu30 := Tryd.underlying30
 have hu46 := Tryd.underlying46
 have hu41 := Tryd.underlying41
 have HR0_3 := Aside0.mk hr0_3
 have HC0_3 := Aside0.mk hc0_3
 clear hr0_3 hc0_3
 have HR0_4 := Aside0.mk hr0_4
 have HC0_4 := Aside0.mk hc0_4
 clear hr0_4 hc0_4
 have HR0_5 := Aside0.mk hr0_5
 have HC0_5 := Aside0.mk hc0_5
 clear hr0_5 hc0_5
 have HB := Aside0.mk (Below.refl w.heap.size w)
 have H : (tables_Clashes.l0 k ([] : List (S41)) l0_4 (l0_4.length : Int) 0) = some r := h
 clear h
 have H' := Aside0.mk H
 clear H
 go_enter Tryd.func15, Tryd.ntmps15
 go_wp2_with (first | ((with_reducible refine gate_dst (N := 1) rfl ?_); refine box_event ?hg (N := 1) ?hd (cs := #[.int .i64 a0_0, .int .i64 a0_1, .int .i64 a0_2, .slice A0_3 l0_3.length c0_3, .slice A0_4 l0_4.length c0_4, .slice A0_5 l0_5.length c0_5]) (t := 30) ?hr ?_; (case hd => rfl); (case hg => rfl); (case hr => first | (go_simp; done) | (go_simp; rfl)); intro gb101 hg w2 hbox hb; have n0_ := Aside0.mk (below_step (by repeat (first | (with_reducible first | exact HB.out | apply below_alloc | apply pw_below_drewN | apply below_drew1) | exact HB.out)) hb); have n1_ := Aside0.mk (hbox); have n2_ := Aside0.mk ((by rw [hg]; exact (below_size (by repeat (first | (with_reducible first | exact HB.out | apply below_alloc | apply pw_below_drewN | apply below_drew1) | exact HB.out))) : w.heap.size ≤ gb101)); have n3_ := Aside0.mk ((by rw [hg]; exact (below_size (by repeat (first | (with_reducible first | exact HB.out | apply below_alloc | apply pw_below_drewN | apply below_drew1) | exact HB.out))) : w.heap.size ≤ gb101)); clear HB; have HB := n0_; have BK101 := n1_; have GW101 := n2_; have GE101 := n3_; clear n0_ n1_ n2_ n3_; clear hb hbox hg; have hcz3_0 : w2.cell? ⟨gb101, 0, none⟩ = some (.int .i64 a0_0) := (blk_cell BK101.out 0).trans rfl; have hcz3_1 : w2.cell? ⟨gb101, 1, none⟩ = some (.int .i64 a0_1) := (blk_cell BK101.out 1).trans rfl; have hcz3_2 : w2.cell? ⟨gb101, 2, none⟩ = some (.int .i64 a0_2) := (blk_cell BK101.out 2).trans rfl; have hcz3_3 : w2.cell? ⟨gb101, 3, none⟩ = some (.slice A0_3 l0_3.length c0_3) := (blk_cell BK101.out 3).trans rfl; have hcz3_4 : w2.cell? ⟨gb101, 4, none⟩ = some (.slice A0_4 l0_4.length c0_4) := (blk_cell BK101.out 4).trans rfl; have hcz3_5 : w2.cell? ⟨gb101, 5, none⟩ = some (.slice A0_5 l0_5.length c0_5) := (blk_cell BK101.out 5).trans rfl; have hfz3_0 := blk_frozen BK101.out 0; have hfz3_1 := blk_frozen BK101.out 1; have hfz3_2 := blk_frozen BK101.out 2; have hfz3_3 := blk_frozen BK101.out 3; have hfz3_4 := blk_frozen BK101.out 4; have hfz3_5 := blk_frozen BK101.out 5))
 go_loopg [3, 12] k (fun kq v3 v12 w' => ∃ (x3_1 : List (S41)) (x12_1 : Int), v12 = .int .i64 x12_1 ∧ Aside0 (tables_Clashes.l0 kq x3_1 l0_4 (l0_4.length : Int) x12_1 = some r) ∧ Aside0 (kq ≤ k) ∧ Aside0 (Kd.R k41 41 w' w.heap.size (fun _ => True) v3 x3_1) ∧ Aside0 (w'.heap[gb101]? = some (.cells #[.int .i64 a0_0, .int .i64 a0_1, .int .i64 a0_2, (.slice A0_3 l0_3.length c0_3), (.slice A0_4 l0_4.length c0_4), (.slice A0_5 l0_5.length c0_5)] 30 (0, 0))) ∧ Aside0 (Below w.heap.size w w'))
 case atStart => exact ⟨(([] : List (S41))), (0), (by first | rfl | (simp; done) | (simp [*]; done)), H', ⟨Nat.le_refl _⟩, ⟨by first | exact Kd.R_nil _ _ _ _ _ | exact Kd.N_nil _ _ _ _ _ | exact Kd.V_nil _ _ _ _ _ | exact Kd.Q_nil _ _ _ _ _ | exact Kd.S_nil _ _ _ _ _⟩, ⟨by (with_reducible repeat (first | refine blk_drewN ?_ _ | refine blk_drew ?_ | refine blk_alloc ?_ _)); exact BK101.out⟩, ⟨by repeat (first | (with_reducible first | exact HB.out | apply below_alloc | apply pw_below_drewN | apply below_drew1 | refine below_set ?_ GE101.out) | exact HB.out)⟩⟩
 case round =>
  as_aux_lemma =>
   clear H'
   try clear c1
   try clear p2
   try clear hcz3_0
   try clear hcz3_1
   try clear hcz3_2
   try clear hcz3_3
   try clear hcz3_4
   try clear hcz3_5
   try clear hfz3_0
   try clear hfz3_1
   try clear hfz3_2
   try clear hfz3_3
   try clear hfz3_4
   try clear hfz3_5
   obtain ⟨x3_1, x12_1, rfl, HA, HK1, HO_3, BK101, HB⟩ := hrel
   cases gk with
   | zero => exact absurd HA.out (by simp [tables_Clashes.l0])
   | succ k1 =>
    have H := HA.out
    clear HA
    simp only [tables_Clashes.l0] at H
    by_cases c4 : x12_1 < (l0_4.length : Int)
    rotate_left
    · rw [if_neg c4] at H
      have c4b0 : decide (x12_1 < (l0_4.length : Int)) = false := decide_eq_false c4
      clear c4
      as_aux_lemma =>
       obtain rfl := Option.some.inj H
       go_wp2
       go_ret
       exact ⟨_, by first | rfl | (simp [errW_none, errW_some] <;> rfl) | (simp [*, errW_none, errW_some] <;> rfl), by (with_reducible repeat (first | apply Kd.R_alloc | apply Kd.R_drewN | apply Kd.R_drew)); exact HO_3.out, by repeat (first | (with_reducible first | exact HB.out | apply below_alloc | apply pw_below_drewN | apply below_drew1 | refine below_set ?_ GE101.out) | exact HB.out)⟩
    rw [if_pos c4] at H
    have c4b0 : decide (x12_1 < (l0_4.length : Int)) = true := decide_eq_true c4
    clear c4
    by_cases c5 : 0 ≤ x12_1
    rotate_left
    · rw [if_neg c5] at H
      exact absurd H (by simp)
    rw [if_pos c5] at H
    have c5b0 : decide (0 ≤ x12_1) = true := decide_eq_true c5
    clear c5
    by_cases c6 : x12_1 < (l0_4.length : Int)
    rotate_left
    · rw [if_neg c6] at H
      exact absurd H (by simp)
    rw [if_pos c6] at H
    have c6b0 : decide (x12_1 < (l0_4.length : Int)) = true := decide_eq_true c6
    clear c6
    have H' := Aside0.mk H
    clear H
    have p102 : 0 ≤ (x12_1 : Int) := of_decide_eq_true (by first | (with_reducible assumption) | assumption)
    have q102 : x12_1 < (l0_4.length : Int) := of_decide_eq_true (by first | (with_reducible assumption) | assumption)
    obtain ⟨ad102, A102_0, c102_0, e102, hx102_0, hl102_0, hi102_0⟩ := at_L7 HR0_4.out x12_1 p102 q102
    cases e102
    replace hx102_0 := (HB.out.cell (World.block_lt_of_cell? w _ hx102_0)).trans hx102_0
    have HR102_0 := Aside0.mk hi102_0
    have HC102_0 := Aside0.mk hl102_0
    clear hi102_0 hl102_0
    replace p102 := eq_true p102
    replace q102 := eq_true q102
    go_wp2
    go_loopg [3, 19] k1 (fun kq v3 v19 w' => ∃ (x3_2 : List (S41)) (x19_2 : Int), v19 = .int .i64 x19_2 ∧ Aside0 (tables_Clashes.l1 kq x3_2 x12_1 l0_4 (l0_4.length : Int) x12_1 (rd_L7 l0_4 x12_1) ((rd_L7 l0_4 x12_1).length : Int) x19_2 = some r) ∧ Aside0 (kq ≤ k1) ∧ Aside0 (Kd.R k41 41 w' w.heap.size (fun _ => True) v3 x3_2) ∧ Aside0 (w'.heap[gb101]? = some (.cells #[.int .i64 a0_0, .int .i64 a0_1, .int .i64 a0_2, (.slice A0_3 l0_3.length c0_3), (.slice (some ad102) l0_4.length c0_4), (.slice A0_5 l0_5.length c0_5)] 30 (0, 0))) ∧ Aside0 (Below w.heap.size w w'))
    case atStart => exact ⟨(x3_1), (0), (by first | rfl | (simp; done) | (simp [*]; done)), H', ⟨Nat.le_refl _⟩, ⟨by (with_reducible repeat (first | apply Kd.R_alloc | apply Kd.R_drewN | apply Kd.R_drew)); exact HO_3.out⟩, ⟨by (with_reducible repeat (first | refine blk_drewN ?_ _ | refine blk_drew ?_ | refine blk_alloc ?_ _)); exact BK101.out⟩, ⟨by repeat (first | (with_reducible first | exact HB.out | apply below_alloc | apply pw_below_drewN | apply below_drew1 | refine below_set ?_ GE101.out) | exact HB.out)⟩⟩
    case round =>
     as_aux_lemma =>
      clear H'
      try clear c1
      try clear p1
      try clear q1
      try clear hx1
      try clear p2
      try clear c4
      try clear c4b0
      try clear c5
      try clear c5b0
      try clear c6
      try clear c6b0
      try clear hcz3_0
      try clear hcz3_1
      try clear hcz3_2
      try clear hcz3_3
      try clear hcz3_4
      try clear hcz3_5
      try clear hfz3_0
      try clear hfz3_1
      try clear hfz3_2
      try clear hfz3_3
      try clear hfz3_4
      try clear hfz3_5
      try clear hx102_0
      try clear p102
      try clear p2
      try clear q102
      obtain ⟨x3_2, x19_2, rfl, HA, HK2, HO_3, BK101, HB⟩ := hrel
      cases gk with
      | zero => exact absurd HA.out (by simp [tables_Clashes.l1])
      | succ k2 =>
       have H := HA.out
       clear HA
       simp only [tables_Clashes.l1] at H
       by_cases c7 : x19_2 < ((rd_L7 l0_4 x12_1).length : Int)
       rotate_left
       · rw [if_neg c7] at H
         have c7b0 : decide (x19_2 < ((rd_L7 l0_4 x12_1).length : Int)) = false := decide_eq_false c7
         clear c7
         as_aux_lemma =>
          have H' := Aside0.mk H
          clear H
          go_wp2
          go_roundg k2
          case measure => have := HK1.out; have := HK2.out; omega
          case rel => exact ⟨(x3_2), (wrap64 (x12_1 + 1)), (by first | rfl | (simp; done) | (simp [*]; done)), H', ⟨by have := HK1.out; have := HK2.out; omega⟩, ⟨by (with_reducible repeat (first | apply Kd.R_alloc | apply Kd.R_drewN | apply Kd.R_drew)); exact HO_3.out⟩, ⟨by (with_reducible repeat (first | refine blk_drewN ?_ _ | refine blk_drew ?_ | refine blk_alloc ?_ _)); exact BK101.out⟩, ⟨by repeat (first | (with_reducible first | exact HB.out | apply below_alloc | apply pw_below_drewN | apply below_drew1 | refine below_set ?_ GE101.out) | exact HB.out)⟩⟩
       rw [if_pos c7] at H
       have c7b0 : decide (x19_2 < ((rd_L7 l0_4 x12_1).length : Int)) = true := decide_eq_true c7
       clear c7
       by_cases c8 : 0 ≤ x19_2
       rotate_left
       · rw [if_neg c8] at H
         exact absurd H (by simp)
       rw [if_pos c8] at H
       have c8b0 : decide (0 ≤ x19_2) = true := decide_eq_true c8
       clear c8
       by_cases c9 : x19_2 < ((rd_L7 l0_4 x12_1).length : Int)
       rotate_left
       · rw [if_neg c9] at H
         exact absurd H (by simp)
       rw [if_pos c9] at H
       have c9b0 : decide (x19_2 < ((rd_L7 l0_4 x12_1).length : Int)) = true := decide_eq_true c9
       clear c9
       have HC10 := Aside0.mk H
       clear H
       have p103 : 0 ≤ (x19_2 : Int) := of_decide_eq_true (by first | (with_reducible assumption) | assumption)
       have q103 : x19_2 < ((rd_L7 l0_4 x12_1).length : Int) := of_decide_eq_true (by first | (with_reducible assumption) | assumption)
       obtain ⟨ad103, A103_1, c103_1, e103, hx103_0, hx103_1, hx103_2, hl103_1, hi103_1⟩ := at_T46 HR102_0.out x19_2 p103 q103
       cases e103
       replace hx103_0 := (HB.out.cell (World.block_lt_of_cell? w _ hx103_0)).trans hx103_0
       replace hx103_1 := (HB.out.cell (World.block_lt_of_cell? w _ hx103_1)).trans hx103_1
       replace hx103_2 := (HB.out.cell (World.block_lt_of_cell? w _ hx103_2)).trans hx103_2
       have HR103_1 := Aside0.mk hi103_1
       have HC103_1 := Aside0.mk hl103_1
       clear hi103_1 hl103_1
       replace p103 := eq_true p103
       replace q103 := eq_true q103
       go_upto_if 29 with (first | ((with_reducible refine gate_dst (N := 7) rfl ?_); refine box_event ?hg (N := 7) ?hd (cs := #[.int .i64 0, .slice none 0 0, .bool false]) (t := 46) ?hr ?_; (case hd => rfl); (case hg => rfl); (case hr => first | (go_simp; done) | (go_simp; rfl)); intro gb104 hg w11 hbox hb; have n0_ := Aside0.mk (Kd.R_below (by (with_reducible repeat (first | apply Kd.R_alloc | apply Kd.R_drewN | apply Kd.R_drew)); exact HO_3.out) hb); have n1_ := Aside0.mk (blk_below (g := gb101) (o := .cells #[.int .i64 a0_0, .int .i64 a0_1, .int .i64 a0_2, .slice A0_3 l0_3.length c0_3, .slice (some ad102) l0_4.length c0_4, .slice A0_5 l0_5.length c0_5] 30 (0, 0)) (by (with_reducible repeat (first | refine blk_drewN ?_ _ | refine blk_drew ?_ | refine blk_alloc ?_ _)); exact BK101.out) hb); have n2_ := Aside0.mk (below_step (by repeat (first | (with_reducible first | exact HB.out | apply below_alloc | apply pw_below_drewN | apply below_drew1 | refine below_set ?_ GE101.out) | exact HB.out)) hb); have n3_ := Aside0.mk (hbox); have n4_ := Aside0.mk ((by rw [hg]; exact (below_size (by repeat (first | (with_reducible first | exact HB.out | apply below_alloc | apply pw_below_drewN | apply below_drew1 | refine below_set ?_ GE101.out) | exact HB.out))) : w.heap.size ≤ gb104)); have n5_ := Aside0.mk ((by rw [hg]; exact (below_size (by repeat (first | (with_reducible first | exact HB.out | apply below_alloc | apply pw_below_drewN | apply below_drew1 | refine below_set ?_ GE101.out) | exact HB.out))) : w.heap.size ≤ gb104)); have n6_ := Aside0.mk ((by rw [hg]; exact Nat.ne_of_lt (blk_lt (g := gb101) (o := .cells #[.int .i64 a0_0, .int .i64 a0_1, .int .i64 a0_2, .slice A0_3 l0_3.length c0_3, .slice (some ad102) l0_4.length c0_4, .slice A0_5 l0_5.length c0_5] 30 (0, 0)) (by (with_reducible repeat (first | refine blk_drewN ?_ _ | refine blk_drew ?_ | refine blk_alloc ?_ _)); exact BK101.out)) : gb101 ≠ gb104)); have n7_ := Aside0.mk ((by rw [hg]; exact Nat.ne_of_gt (blk_lt (g := gb101) (o := .cells #[.int .i64 a0_0, .int .i64 a0_1, .int .i64 a0_2, .slice A0_3 l0_3.length c0_3, .slice (some ad102) l0_4.length c0_4, .slice A0_5 l0_5.length c0_5] 30 (0, 0)) (by (with_reducible repeat (first | refine blk_drewN ?_ _ | refine blk_drew ?_ | refine blk_alloc ?_ _)); exact BK101.out)) : gb104 ≠ gb101)); clear HO_3; clear BK101; clear HB; have HO_3 := n0_; have BK101 := n1_; have HB := n2_; have BK104 := n3_; have GW104 := n4_; have GE104 := n5_; have NB101_104 := n6_; have NB104_101 := n7_; clear n0_ n1_ n2_ n3_ n4_ n5_ n6_ n7_; clear hb hbox hg; have hnb12 := NB104_101.out; have hnc12 := NB101_104.out; have hcz13_0 : w11.cell? ⟨gb104, 0, none⟩ = some (.int .i64 0) := (blk_cell BK104.out 0).trans rfl; have hcz13_1 : w11.cell? ⟨gb104, 1, none⟩ = some (.slice none 0 0) := (blk_cell BK104.out 1).trans rfl; have hcz13_2 : w11.cell? ⟨gb104, 2, none⟩ = some (.bool false) := (blk_cell BK104.out 2).trans rfl; have hfz13_0 := blk_frozen BK104.out 0; have hfz13_1 := blk_frozen BK104.out 1; have hfz13_2 := blk_frozen BK104.out 2))
       (try simp only [Act.put, List.setIfInBounds_toArray, List.set_cons_zero, List.set_cons_succ])
       go_cut [8] (fun v8 wc => ∃ (kq : Nat) (x8_9 : Int), v8 = .int .i64 x8_9 ∧ Aside0 (tables_Clashes.j2 kq x3_2 x12_1 x19_2 x8_9 l0_4 (l0_4.length : Int) x12_1 (rd_L7 l0_4 x12_1) ((rd_L7 l0_4 x12_1).length : Int) x19_2 ((rd_T46 (rd_L7 l0_4 x12_1) x19_2).f0) ((rd_T46 (rd_L7 l0_4 x12_1) x19_2).f1) ((rd_T46 (rd_L7 l0_4 x12_1) x19_2).f2) = some r) ∧ Aside0 (kq ≤ k2) ∧ Aside0 (Kd.R k41 41 wc w.heap.size (fun _ => True) u3 x3_2) ∧ Aside0 (wc.heap[gb101]? = some (.cells #[.int .i64 a0_0, .int .i64 a0_1, .int .i64 a0_2, (.slice A0_3 l0_3.length c0_3), (.slice (some ad102) l0_4.length c0_4), (.slice A0_5 l0_5.length c0_5)] 30 (0, 0))) ∧ Aside0 (wc.heap[gb104]? = some (.cells #[.int .i64 ((rd_T46 (rd_L7 l0_4 x12_1) x19_2).f0), (.slice A103_1 ((rd_T46 (rd_L7 l0_4 x12_1) x19_2).f1).length c103_1), .bool ((rd_T46 (rd_L7 l0_4 x12_1) x19_2).f2)] 46 (0, 0))) ∧ Aside0 (Below w.heap.size w wc))
       case first =>
        have H := HC10.out
        clear HC10
        by_cases c14 : ((rd_T46 (rd_L7 l0_4 x12_1) x19_2).f0) ≥ 0
        rotate_left
        · rw [if_neg c14] at H
          have c14b0 : decide (0 ≤ ((rd_T46 (rd_L7 l0_4 x12_1) x19_2).f0)) = false := decide_eq_false c14
          clear c14
          (first | rw [c14b0] | (simp only [i64_w, i32_w]; rw [c14b0]) | skip)
          as_aux_lemma =>
           have H' := Aside0.mk H
           clear H
           go_wp2
           go_meet
           case rel => exact ⟨_, ((((rd_T46 (rd_L7 l0_4 x12_1) x19_2).f1).length : Int)), (by first | rfl | (simp; done) | (simp [*]; done)), H', ⟨by have := HK1.out; have := HK2.out; first | omega | exact Nat.le_refl _⟩, ⟨by (with_reducible repeat (first | apply Kd.R_alloc | apply Kd.R_drewN | apply Kd.R_drew)); exact Kd.R_mono (Kd.R_far (p := ⟨gb104, 2, none⟩) (Kd.R_far (p := ⟨gb104, 1, none⟩) (Kd.R_far (p := ⟨gb104, 0, none⟩) (Kd.R_types HO_3.out BK104.out (by decide)) (fun _ hk => hk.2) (.int .i64 ((rd_T46 (rd_L7 l0_4 x12_1) x19_2).f0))) (fun _ hk => hk.2) (.slice A103_1 ((rd_T46 (rd_L7 l0_4 x12_1) x19_2).f1).length c103_1)) (fun _ hk => hk.2) (.bool ((rd_T46 (rd_L7 l0_4 x12_1) x19_2).f2))) (fun _ hk => trivial)⟩, ⟨by (with_reducible repeat (first | refine blk_drewN ?_ _ | refine blk_drew ?_ | refine blk_alloc ?_ _)); refine blk_far ?_ NB101_104.out _; (with_reducible repeat (first | refine blk_drewN ?_ _ | refine blk_drew ?_ | refine blk_alloc ?_ _)); refine blk_far ?_ NB101_104.out _; (with_reducible repeat (first | refine blk_drewN ?_ _ | refine blk_drew ?_ | refine blk_alloc ?_ _)); refine blk_far ?_ NB101_104.out _; (with_reducible repeat (first | refine blk_drewN ?_ _ | refine blk_drew ?_ | refine blk_alloc ?_ _)); exact BK101.out⟩, ⟨by (with_reducible repeat (first | refine blk_drewN ?_ _ | refine blk_drew ?_ | refine blk_alloc ?_ _)); refine blk_put (cs := #[.int .i64 ((rd_T46 (rd_L7 l0_4 x12_1) x19_2).f0), .slice A103_1 ((rd_T46 (rd_L7 l0_4 x12_1) x19_2).f1).length c103_1, .bool false]) ?_ 2 _ rfl; (with_reducible repeat (first | refine blk_drewN ?_ _ | refine blk_drew ?_ | refine blk_alloc ?_ _)); refine blk_put (cs := #[.int .i64 ((rd_T46 (rd_L7 l0_4 x12_1) x19_2).f0), .slice none 0 0, .bool false]) ?_ 1 _ rfl; (with_reducible repeat (first | refine blk_drewN ?_ _ | refine blk_drew ?_ | refine blk_alloc ?_ _)); refine blk_put (cs := #[.int .i64 0, .slice none 0 0, .bool false]) ?_ 0 _ rfl; (with_reducible repeat (first | refine blk_drewN ?_ _ | refine blk_drew ?_ | refine blk_alloc ?_ _)); exact BK104.out⟩, ⟨by repeat (first | (with_reducible first | exact HB.out | apply below_alloc | apply pw_below_drewN | apply below_drew1 | refine below_set ?_ GE101.out | refine below_set ?_ GE104.out) | exact HB.out)⟩⟩
        rw [if_pos c14] at H
        have c14b0 : decide (0 ≤ ((rd_T46 (rd_L7 l0_4 x12_1) x19_2).f0)) = true := decide_eq_true c14
        clear c14
        (first | rw [c14b0] | (simp only [i64_w, i32_w]; rw [c14b0]) | skip)
        as_aux_lemma =>
         have H' := Aside0.mk H
         clear H
         go_wp2
         go_meet
         case rel => exact ⟨_, (wrap64 ((((rd_T46 (rd_L7 l0_4 x12_1) x19_2).f1).length : Int) + 1)), (by first | rfl | (simp; done) | (simp [*]; done)), H', ⟨by have := HK1.out; have := HK2.out; first | omega | exact Nat.le_refl _⟩, ⟨by (with_reducible repeat (first | apply Kd.R_alloc | apply Kd.R_drewN | apply Kd.R_drew)); exact Kd.R_mono (Kd.R_far (p := ⟨gb104, 2, none⟩) (Kd.R_far (p := ⟨gb104, 1, none⟩) (Kd.R_far (p := ⟨gb104, 0, none⟩) (Kd.R_types HO_3.out BK104.out (by decide)) (fun _ hk => hk.2) (.int .i64 ((rd_T46 (rd_L7 l0_4 x12_1) x19_2).f0))) (fun _ hk => hk.2) (.slice A103_1 ((rd_T46 (rd_L7 l0_4 x12_1) x19_2).f1).length c103_1)) (fun _ hk => hk.2) (.bool ((rd_T46 (rd_L7 l0_4 x12_1) x19_2).f2))) (fun _ hk => trivial)⟩, ⟨by (with_reducible repeat (first | refine blk_drewN ?_ _ | refine blk_drew ?_ | refine blk_alloc ?_ _)); refine blk_far ?_ NB101_104.out _; (with_reducible repeat (first | refine blk_drewN ?_ _ | refine blk_drew ?_ | refine blk_alloc ?_ _)); refine blk_far ?_ NB101_104.out _; (with_reducible repeat (first | refine blk_drewN ?_ _ | refine blk_drew ?_ | refine blk_alloc ?_ _)); refine blk_far ?_ NB101_104.out _; (with_reducible repeat (first | refine blk_drewN ?_ _ | refine blk_drew ?_ | refine blk_alloc ?_ _)); exact BK101.out⟩, ⟨by (with_reducible repeat (first | refine blk_drewN ?_ _ | refine blk_drew ?_ | refine blk_alloc ?_ _)); refine blk_put (cs := #[.int .i64 ((rd_T46 (rd_L7 l0_4 x12_1) x19_2).f0), .slice A103_1 ((rd_T46 (rd_L7 l0_4 x12_1) x19_2).f1).length c103_1, .bool false]) ?_ 2 _ rfl; (with_reducible repeat (first | refine blk_drewN ?_ _ | refine blk_drew ?_ | refine blk_alloc ?_ _)); refine blk_put (cs := #[.int .i64 ((rd_T46 (rd_L7 l0_4 x12_1) x19_2).f0), .slice none 0 0, .bool false]) ?_ 1 _ rfl; (with_reducible repeat (first | refine blk_drewN ?_ _ | refine blk_drew ?_ | refine blk_alloc ?_ _)); refine blk_put (cs := #[.int .i64 0, .slice none 0 0, .bool false]) ?_ 0 _ rfl; (with_reducible repeat (first | refine blk_drewN ?_ _ | refine blk_drew ?_ | refine blk_alloc ?_ _)); exact BK104.out⟩, ⟨by repeat (first | (with_reducible first | exact HB.out | apply below_alloc | apply pw_below_drewN | apply below_drew1 | refine below_set ?_ GE101.out | refine below_set ?_ GE104.out) | exact HB.out)⟩⟩
       case rest =>
        as_aux_lemma =>
         clear HC10
         try clear c1
         try clear p1
         try clear q1
         try clear hx1
         try clear p2
         try clear c4
         try clear c4b0
         try clear c5
         try clear c5b0
         try clear c6
         try clear c6b0
         try clear p6
         try clear c7
         try clear c7b0
         try clear c8
         try clear c8b0
         try clear c9
         try clear c9b0
         try clear c10
         try clear p10
         try clear q10
         try clear hx10
         try clear c12
         try clear c14
         try clear c14b0
         try clear hcz13_0
         try clear hcz13_1
         try clear hcz13_2
         try clear hcz3_0
         try clear hcz3_1
         try clear hcz3_2
         try clear hcz3_3
         try clear hcz3_4
         try clear hcz3_5
         try clear hfz13_0
         try clear hfz13_1
         try clear hfz13_2
         try clear hfz3_0
         try clear hfz3_1
         try clear hfz3_2
         try clear hfz3_3
         try clear hfz3_4
         try clear hfz3_5
         try clear hx102_0
         try clear hx103_0
         try clear hx103_1
         try clear hx103_2
         try clear p1
         try clear p102
         try clear p103
         try clear p2
         try clear q1
         try clear q102
         try clear q103
         obtain ⟨kq, x8_9, rfl, HA, HJ9, HO_3, BK101, BK104, HB⟩ := hcut
         cases kq with
         | zero => exact absurd HA.out (by simp [tables_Clashes.j2])
         | succ kj9 =>
          have H := HA.out
          clear HA
          simp only [tables_Clashes.j2] at H
          by_cases c15 : ((rd_T46 (rd_L7 l0_4 x12_1) x19_2).f2) = true
          rotate_left
          · rw [if_neg c15] at H
            have c15b0 : ((rd_T46 (rd_L7 l0_4 x12_1) x19_2).f2) = false := by simpa using c15
            clear c15
            by_cases c23 : x8_9 > 1
            rotate_left
            · rw [if_neg c23] at H
              have c23b0 : decide (1 < x8_9) = false := decide_eq_false c23
              clear c23
              as_aux_lemma =>
               have H' := Aside0.mk H
               clear H
               have hnb28 := NB104_101.out
               have hnc28 := NB101_104.out
               have hcz29_0 : wc.cell? ⟨gb104, 0, none⟩ = some (.int .i64 ((rd_T46 (rd_L7 l0_4 x12_1) x19_2).f0)) := (blk_cell BK104.out 0).trans rfl
               have hcz29_1 : wc.cell? ⟨gb104, 1, none⟩ = some (.slice A103_1 ((rd_T46 (rd_L7 l0_4 x12_1) x19_2).f1).length c103_1) := (blk_cell BK104.out 1).trans rfl
               have hcz29_2 : wc.cell? ⟨gb104, 2, none⟩ = some (.bool ((rd_T46 (rd_L7 l0_4 x12_1) x19_2).f2)) := (blk_cell BK104.out 2).trans rfl
               have hfz29_0 := blk_frozen BK104.out 0
               have hfz29_1 := blk_frozen BK104.out 1
               have hfz29_2 := blk_frozen BK104.out 2
               go_wp2
               go_roundg kj9
               case measure => have := HK1.out; have := HK2.out; have := HJ9.out; omega
               case rel => exact ⟨(x3_2), (wrap64 (x19_2 + 1)), (by first | rfl | (simp; done) | (simp [*]; done)), H', ⟨by have := HK1.out; have := HK2.out; have := HJ9.out; omega⟩, ⟨by (with_reducible repeat (first | apply Kd.R_alloc | apply Kd.R_drewN | apply Kd.R_drew)); exact HO_3.out⟩, ⟨by (with_reducible repeat (first | refine blk_drewN ?_ _ | refine blk_drew ?_ | refine blk_alloc ?_ _)); exact BK101.out⟩, ⟨by repeat (first | (with_reducible first | exact HB.out | apply below_alloc | apply pw_below_drewN | apply below_drew1 | refine below_set ?_ GE101.out | refine below_set ?_ GE104.out) | exact HB.out)⟩⟩
            rw [if_pos c23] at H
            have c23b0 : decide (1 < x8_9) = true := decide_eq_true c23
            clear c23
            by_cases c24 : x3_2.length < 8796093022208
            rotate_left
            · rw [if_neg c24] at H
              exact absurd H (by simp)
            rw [if_pos c24] at H
            have LMc24 := Aside0.mk c24
            clear c24
            obtain ⟨y108, hy108⟩ : ∃ y_ : List (S41), y_ = (x3_2 ++ [(⟨x12_1, x19_2⟩ : S41)]) := ⟨_, rfl⟩
            replace H : (tables_Clashes.l1 kj9 y108 x12_1 l0_4 (l0_4.length : Int) x12_1 (rd_L7 l0_4 x12_1) ((rd_L7 l0_4 x12_1).length : Int) (wrap64 (x19_2 + 1))) = some r := by first | (rw [hy108]; with_reducible exact H) | (have H2_ := (Option.bind_some _ _).symm.trans H; rw [hy108]; with_reducible exact H2_) | (have H2_ := (Option.bind_some _ _).symm.trans H; with_reducible exact H2_) | with_reducible exact H | (rw [hy108]; exact H) | exact H
            have Ny108 := Aside0.mk hy108
            clear hy108
            as_aux_lemma =>
             have H' := Aside0.mk H
             clear H
             have hnb25 := NB104_101.out
             have hnc25 := NB101_104.out
             have hcz26_0 : wc.cell? ⟨gb104, 0, none⟩ = some (.int .i64 ((rd_T46 (rd_L7 l0_4 x12_1) x19_2).f0)) := (blk_cell BK104.out 0).trans rfl
             have hcz26_1 : wc.cell? ⟨gb104, 1, none⟩ = some (.slice A103_1 ((rd_T46 (rd_L7 l0_4 x12_1) x19_2).f1).length c103_1) := (blk_cell BK104.out 1).trans rfl
             have hcz26_2 : wc.cell? ⟨gb104, 2, none⟩ = some (.bool ((rd_T46 (rd_L7 l0_4 x12_1) x19_2).f2)) := (blk_cell BK104.out 2).trans rfl
             have hfz26_0 := blk_frozen BK104.out 0
             have hfz26_1 := blk_frozen BK104.out 1
             have hfz26_2 := blk_frozen BK104.out 2
             go_wp2_with (first | ((with_reducible refine gate_builtin (b := .append) (xs := #[.tmp 38, .tmp 42]) rfl ?_); at_builtin; refine Kd.R_append k41 (w0 := w) w.heap.size rfl (.tmp 38) (.tmp 42) 38 41 (.agg #[(.int .i64 0), (.int .i64 0)]) 16 rfl Tryd.underlying38 info41 rfl (by decide) (by omega) u3 x3_2 (⟨x12_1, x19_2⟩ : S41) [.int .i64 x12_1, .int .i64 x19_2] (fun _ => True) (fun _ => False) rfl rfl ?aP (fun _ hk => hk.elim) ?aF ?aO ?aB ?aS ?aL ?_; (case aP => exact k41_mkM _ _ _ (⟨x12_1, x19_2⟩ : S41)); (case aB => exact (by repeat (first | (with_reducible first | exact HB.out | apply below_alloc | apply pw_below_drewN | apply below_drew1 | refine below_set ?_ GE101.out | refine below_set ?_ GE104.out) | exact HB.out))); (case aF => exact (fun _ _ => trivial)); (case aO => exact (by (with_reducible repeat (first | apply Kd.R_alloc | apply Kd.R_drewN | apply Kd.R_drew)); exact HO_3.out)); (case aS => exact (below_size (by repeat (first | (with_reducible first | exact HB.out | apply below_alloc | apply pw_below_drewN | apply below_drew1 | refine below_set ?_ GE101.out | refine below_set ?_ GE104.out) | exact HB.out)))); (case aL => have := LMc24.out; omega); intro v109 w27 ho hb hg hat; rw [← Ny108.out] at ho; have n0_ := Aside0.mk (blk_grown (g := gb101) (o := .cells #[.int .i64 a0_0, .int .i64 a0_1, .int .i64 a0_2, .slice A0_3 l0_3.length c0_3, .slice (some ad102) l0_4.length c0_4, .slice A0_5 l0_5.length c0_5] 30 (0, 0)) (by (with_reducible repeat (first | refine blk_drewN ?_ _ | refine blk_drew ?_ | refine blk_alloc ?_ _)); exact BK101.out) hg (Kd.R_ne HO_3.out BK101.out (by decide))); have n1_ := Aside0.mk (blk_grown (g := gb104) (o := .cells #[.int .i64 ((rd_T46 (rd_L7 l0_4 x12_1) x19_2).f0), .slice A103_1 ((rd_T46 (rd_L7 l0_4 x12_1) x19_2).f1).length c103_1, .bool ((rd_T46 (rd_L7 l0_4 x12_1) x19_2).f2)] 46 (0, 0)) (by (with_reducible repeat (first | refine blk_drewN ?_ _ | refine blk_drew ?_ | refine blk_alloc ?_ _)); exact BK104.out) hg (Kd.R_ne HO_3.out BK104.out (by decide))); have n2_ := Aside0.mk (hb); have n3_ := Aside0.mk (ho); clear BK101; clear BK104; clear HB; clear HO_3; have BK101 := n0_; have BK104 := n1_; have HB := n2_; have HO110 := n3_; clear n0_ n1_ n2_ n3_; clear ho hb hg hat))
             go_roundg kj9
             case measure => have := HK1.out; have := HK2.out; have := HJ9.out; omega
             case rel => exact ⟨(y108), (wrap64 (x19_2 + 1)), (by first | rfl | (simp; done) | (simp [*]; done)), H', ⟨by have := HK1.out; have := HK2.out; have := HJ9.out; omega⟩, ⟨by (with_reducible repeat (first | apply Kd.R_alloc | apply Kd.R_drewN | apply Kd.R_drew)); exact HO110.out⟩, ⟨by (with_reducible repeat (first | refine blk_drewN ?_ _ | refine blk_drew ?_ | refine blk_alloc ?_ _)); exact BK101.out⟩, ⟨by repeat (first | (with_reducible first | exact HB.out | apply below_alloc | apply pw_below_drewN | apply below_drew1 | refine below_set ?_ GE101.out | refine below_set ?_ GE104.out) | exact HB.out)⟩⟩
          rw [if_pos c15] at H
          have c15b0 : ((rd_T46 (rd_L7 l0_4 x12_1) x19_2).f2) = true := c15
          clear c15
          by_cases c16 : (wrap64 (x8_9 + 1)) > 1
          rotate_left
          · rw [if_neg c16] at H
            have c16b0 : decide (1 < (wrap64 (x8_9 + 1))) = false := decide_eq_false c16
            clear c16
            as_aux_lemma =>
             have H' := Aside0.mk H
             clear H
             have hnb21 := NB104_101.out
             have hnc21 := NB101_104.out
             have hcz22_0 : wc.cell? ⟨gb104, 0, none⟩ = some (.int .i64 ((rd_T46 (rd_L7 l0_4 x12_1) x19_2).f0)) := (blk_cell BK104.out 0).trans rfl
             have hcz22_1 : wc.cell? ⟨gb104, 1, none⟩ = some (.slice A103_1 ((rd_T46 (rd_L7 l0_4 x12_1) x19_2).f1).length c103_1) := (blk_cell BK104.out 1).trans rfl
             have hcz22_2 : wc.cell? ⟨gb104, 2, none⟩ = some (.bool ((rd_T46 (rd_L7 l0_4 x12_1) x19_2).f2)) := (blk_cell BK104.out 2).trans rfl
             have hfz22_0 := blk_frozen BK104.out 0
             have hfz22_1 := blk_frozen BK104.out 1
             have hfz22_2 := blk_frozen BK104.out 2
             go_wp2
             go_roundg kj9
             case measure => have := HK1.out; have := HK2.out; have := HJ9.out; omega
             case rel => exact ⟨(x3_2), (wrap64 (x19_2 + 1)), (by first | rfl | (simp; done) | (simp [*]; done)), H', ⟨by have := HK1.out; have := HK2.out; have := HJ9.out; omega⟩, ⟨by (with_reducible repeat (first | apply Kd.R_alloc | apply Kd.R_drewN | apply Kd.R_drew)); exact HO_3.out⟩, ⟨by (with_reducible repeat (first | refine blk_drewN ?_ _ | refine blk_drew ?_ | refine blk_alloc ?_ _)); exact BK101.out⟩, ⟨by repeat (first | (with_reducible first | exact HB.out | apply below_alloc | apply pw_below_drewN | apply below_drew1 | refine below_set ?_ GE101.out | refine below_set ?_ GE104.out) | exact HB.out)⟩⟩
          rw [if_pos c16] at H
          have c16b0 : decide (1 < (wrap64 (x8_9 + 1))) = true := decide_eq_true c16
          clear c16
          by_cases c17 : x3_2.length < 8796093022208
          rotate_left
          · rw [if_neg c17] at H
            exact absurd H (by simp)
          rw [if_pos c17] at H
          have LMc17 := Aside0.mk c17
          clear c17
          obtain ⟨y105, hy105⟩ : ∃ y_ : List (S41), y_ = (x3_2 ++ [(⟨x12_1, x19_2⟩ : S41)]) := ⟨_, rfl⟩
          replace H : (tables_Clashes.l1 kj9 y105 x12_1 l0_4 (l0_4.length : Int) x12_1 (rd_L7 l0_4 x12_1) ((rd_L7 l0_4 x12_1).length : Int) (wrap64 (x19_2 + 1))) = some r := by first | (rw [hy105]; with_reducible exact H) | (have H2_ := (Option.bind_some _ _).symm.trans H; rw [hy105]; with_reducible exact H2_) | (have H2_ := (Option.bind_some _ _).symm.trans H; with_reducible exact H2_) | with_reducible exact H | (rw [hy105]; exact H) | exact H
          have Ny105 := Aside0.mk hy105
          clear hy105
          as_aux_lemma =>
           have H' := Aside0.mk H
           clear H
           have hnb18 := NB104_101.out
           have hnc18 := NB101_104.out
           have hcz19_0 : wc.cell? ⟨gb104, 0, none⟩ = some (.int .i64 ((rd_T46 (rd_L7 l0_4 x12_1) x19_2).f0)) := (blk_cell BK104.out 0).trans rfl
           have hcz19_1 : wc.cell? ⟨gb104, 1, none⟩ = some (.slice A103_1 ((rd_T46 (rd_L7 l0_4 x12_1) x19_2).f1).length c103_1) := (blk_cell BK104.out 1).trans rfl
           have hcz19_2 : wc.cell? ⟨gb104, 2, none⟩ = some (.bool ((rd_T46 (rd_L7 l0_4 x12_1) x19_2).f2)) := (blk_cell BK104.out 2).trans rfl
           have hfz19_0 := blk_frozen BK104.out 0
           have hfz19_1 := blk_frozen BK104.out 1
           have hfz19_2 := blk_frozen BK104.out 2
           go_wp2_with (first | ((with_reducible refine gate_builtin (b := .append) (xs := #[.tmp 38, .tmp 42]) rfl ?_); at_builtin; refine Kd.R_append k41 (w0 := w) w.heap.size rfl (.tmp 38) (.tmp 42) 38 41 (.agg #[(.int .i64 0), (.int .i64 0)]) 16 rfl Tryd.underlying38 info41 rfl (by decide) (by omega) u3 x3_2 (⟨x12_1, x19_2⟩ : S41) [.int .i64 x12_1, .int .i64 x19_2] (fun _ => True) (fun _ => False) rfl rfl ?aP (fun _ hk => hk.elim) ?aF ?aO ?aB ?aS ?aL ?_; (case aP => exact k41_mkM _ _ _ (⟨x12_1, x19_2⟩ : S41)); (case aB => exact (by repeat (first | (with_reducible first | exact HB.out | apply below_alloc | apply pw_below_drewN | apply below_drew1 | refine below_set ?_ GE101.out | refine below_set ?_ GE104.out) | exact HB.out))); (case aF => exact (fun _ _ => trivial)); (case aO => exact (by (with_reducible repeat (first | apply Kd.R_alloc | apply Kd.R_drewN | apply Kd.R_drew)); exact HO_3.out)); (case aS => exact (below_size (by repeat (first | (with_reducible first | exact HB.out | apply below_alloc | apply pw_below_drewN | apply below_drew1 | refine below_set ?_ GE101.out | refine below_set ?_ GE104.out) | exact HB.out)))); (case aL => have := LMc17.out; omega); intro v106 w20 ho hb hg hat; rw [← Ny105.out] at ho; have n0_ := Aside0.mk (blk_grown (g := gb101) (o := .cells #[.int .i64 a0_0, .int .i64 a0_1, .int .i64 a0_2, .slice A0_3 l0_3.length c0_3, .slice (some ad102) l0_4.length c0_4, .slice A0_5 l0_5.length c0_5] 30 (0, 0)) (by (with_reducible repeat (first | refine blk_drewN ?_ _ | refine blk_drew ?_ | refine blk_alloc ?_ _)); exact BK101.out) hg (Kd.R_ne HO_3.out BK101.out (by decide))); have n1_ := Aside0.mk (blk_grown (g := gb104) (o := .cells #[.int .i64 ((rd_T46 (rd_L7 l0_4 x12_1) x19_2).f0), .slice A103_1 ((rd_T46 (rd_L7 l0_4 x12_1) x19_2).f1).length c103_1, .bool ((rd_T46 (rd_L7 l0_4 x12_1) x19_2).f2)] 46 (0, 0)) (by (with_reducible repeat (first | refine blk_drewN ?_ _ | refine blk_drew ?_ | refine blk_alloc ?_ _)); exact BK104.out) hg (Kd.R_ne HO_3.out BK104.out (by decide))); have n2_ := Aside0.mk (hb); have n3_ := Aside0.mk (ho); clear BK101; clear BK104; clear HB; clear HO_3; have BK101 := n0_; have BK104 := n1_; have HB := n2_; have HO107 := n3_; clear n0_ n1_ n2_ n3_; clear ho hb hg hat))
           go_roundg kj9
           case measure => have := HK1.out; have := HK2.out; have := HJ9.out; omega
           case rel => exact ⟨(y105), (wrap64 (x19_2 + 1)), (by first | rfl | (simp; done) | (simp [*]; done)), H', ⟨by have := HK1.out; have := HK2.out; have := HJ9.out; omega⟩, ⟨by (with_reducible repeat (first | apply Kd.R_alloc | apply Kd.R_drewN | apply Kd.R_drew)); exact HO107.out⟩, ⟨by (with_reducible repeat (first | refine blk_drewN ?_ _ | refine blk_drew ?_ | refine blk_alloc ?_ _)); exact BK101.out⟩, ⟨by repeat (first | (with_reducible first | exact HB.out | apply below_alloc | apply pw_below_drewN | apply below_drew1 | refine below_set ?_ GE101.out | refine below_set ?_ GE104.out) | exact HB.out)⟩⟩
noncomputable def rootstocklaw14_SameInts.l0 : Nat → List Int → List Int → Int → Option (Bool)
  | 0, _, _, _ => none
  | k + 1, x0, x1, x5 => if x5 < (x0.length : Int) then (if 0 ≤ x5 then (if x5 < (x1.length : Int) then (if (rd x0 x5) = (rd x1 x5) then (rootstocklaw14_SameInts.l0 k x0 x1 (wrap64 (x5 + 1))) else (some false)) else (none)) else (none)) else (some true)
noncomputable def rootstocklaw14_SameInts.f (k : Nat) (l0 : List Int) (l1 : List Int) : Option (Bool) := if (l0.length : Int) = (l1.length : Int) then (rootstocklaw14_SameInts.l0 k l0 l1 0) else (some false)
set_option maxHeartbeats 8000000 in
set_option maxRecDepth 100000 in
theorem rootstocklaw14_SameInts.calls (k : Nat) (A0 : Option Addr) (c0 : Nat) (l0 : List Int) (A1 : Option Addr) (c1 : Nat) (l1 : List Int) (r : Bool) (w : World) (hr0 : Kd.C (Kd.int .i64) w A0 l0.length l0) (hc0 : l0.length ≤ c0) (hr1 : Kd.C (Kd.int .i64) w A1 l1.length l1) (hc1 : l1.length ≤ c1) (h : rootstocklaw14_SameInts.f k l0 l1 = some r) :
    Calls Tryd.prog 37 #[.slice A0 l0.length c0, .slice A1 l1.length c1] w fun e w' => e = .returned (.bool r) ∧ Drawn0 w w' := by
 have HR0 := Aside0.mk hr0
 have HC0 := Aside0.mk hc0
 clear hr0 hc0
 have HR1 := Aside0.mk hr1
 have HC1 := Aside0.mk hc1
 clear hr1 hc1
 have H : (if (l0.length : Int) = (l1.length : Int) then (rootstocklaw14_SameInts.l0 k l0 l1 0) else (some false)) = some r := h
 clear h
 by_cases c3 : (l0.length : Int) = (l1.length : Int)
 rotate_left
 · rw [if_neg c3] at H
   have c3b0 : ((l0.length : Int) == (l1.length : Int)) = false := beq_eq_false_iff_ne.mpr c3
   have c3b1 : ((l0.length : Int) != (l1.length : Int)) = true := bne_iff_ne.mpr c3
   have c3b2 : (l0.length == l1.length) = false := by first | simpa using c3 | (simp at c3 ⊢; omega)
   as_aux_lemma =>
    obtain rfl := Option.some.inj H
    go_enter Tryd.func37, Tryd.ntmps37
    go_wp2
    repeat (go_quiet (fail); try go_wp2)
    go_ret
    exact ⟨by first | rfl | (simp; done) | (simp [*]; done), by repeat (first | exact Drawn0.refl _ | apply Drawn0.step)⟩
 rw [if_pos c3] at H
 have c3b0 : ((l0.length : Int) == (l1.length : Int)) = true := beq_iff_eq.mpr c3
 have c3b1 : ((l0.length : Int) != (l1.length : Int)) = false := bne_eq_false_iff_eq.mpr c3
 have c3b2 : (l0.length == l1.length) = true := by first | simpa using c3 | (simp at c3 ⊢; omega)
 clear c3
 have H' := Aside0.mk H
 clear H
 go_enter Tryd.func37, Tryd.ntmps37
 go_wp2
 repeat (go_quiet (fail); try go_wp2)
 go_loopg [5] k (fun kq v5 w' => ∃ (x5_1 : Int), v5 = .int .i64 x5_1 ∧ Aside0 (rootstocklaw14_SameInts.l0 kq l0 l1 x5_1 = some r) ∧ Aside0 (kq ≤ k) ∧ Drawn0 w w')
 case atStart => exact ⟨(0), (by first | rfl | (simp; done) | (simp [*]; done)), H', ⟨Nat.le_refl _⟩, by repeat (first | exact Drawn0.refl _ | apply Drawn0.step)⟩
 case round =>
  clear H'
  try clear c1
  try clear p2
  try clear c3
  try clear c3b0
  try clear c3b1
  try clear c3b2
  obtain ⟨x5_1, rfl, HA, HK1, ⟨m1, rfl⟩⟩ := hrel
  cases gk with
  | zero => exact absurd HA.out (by simp [rootstocklaw14_SameInts.l0])
  | succ k1 =>
   have H := HA.out
   clear HA
   simp only [rootstocklaw14_SameInts.l0] at H
   by_cases c4 : x5_1 < (l0.length : Int)
   rotate_left
   · rw [if_neg c4] at H
     have c4b0 : decide (x5_1 < (l0.length : Int)) = false := decide_eq_false c4
     clear c4
     as_aux_lemma =>
      obtain rfl := Option.some.inj H
      go_wp2
      repeat (go_quiet (fail); try go_wp2)
      go_ret
      exact ⟨by first | rfl | (simp; done) | (simp [*]; done), by repeat (first | exact Drawn0.refl _ | apply Drawn0.step)⟩
   rw [if_pos c4] at H
   have c4b0 : decide (x5_1 < (l0.length : Int)) = true := decide_eq_true c4
   clear c4
   by_cases c5 : 0 ≤ x5_1
   rotate_left
   · rw [if_neg c5] at H
     exact absurd H (by simp)
   rw [if_pos c5] at H
   have c5b0 : decide (0 ≤ x5_1) = true := decide_eq_true c5
   clear c5
   by_cases c6 : x5_1 < (l1.length : Int)
   rotate_left
   · rw [if_neg c6] at H
     exact absurd H (by simp)
   rw [if_pos c6] at H
   have c6b0 : decide (x5_1 < (l1.length : Int)) = true := decide_eq_true c6
   clear c6
   by_cases c7 : (rd l0 x5_1) = (rd l1 x5_1)
   rotate_left
   · rw [if_neg c7] at H
     have c7b0 : ((rd l0 x5_1) == (rd l1 x5_1)) = false := beq_eq_false_iff_ne.mpr c7
     have c7b1 : ((rd l0 x5_1) != (rd l1 x5_1)) = true := bne_iff_ne.mpr c7
     as_aux_lemma =>
      obtain rfl := Option.some.inj H
      have p111 : 0 ≤ (x5_1 : Int) := of_decide_eq_true (by first | (with_reducible assumption) | assumption)
      have q111 : x5_1 < (l0.length : Int) := of_decide_eq_true (by first | (with_reducible assumption) | assumption)
      obtain ⟨ad111, e111, hx111_0⟩ := Kd.at_int HR0.out x5_1 p111 q111
      cases e111
      replace p111 := eq_true p111
      replace q111 := eq_true q111
      have p112 : 0 ≤ (x5_1 : Int) := of_decide_eq_true (by first | (with_reducible assumption) | assumption)
      have q112 : x5_1 < (l1.length : Int) := of_decide_eq_true (by first | (with_reducible assumption) | assumption)
      obtain ⟨ad112, e112, hx112_0⟩ := Kd.at_int HR1.out x5_1 p112 q112
      cases e112
      replace p112 := eq_true p112
      replace q112 := eq_true q112
      go_wp2
      repeat (go_quiet (fail); try go_wp2)
      go_ret
      exact ⟨by first | rfl | (simp; done) | (simp [*]; done), by repeat (first | exact Drawn0.refl _ | apply Drawn0.step)⟩
   rw [if_pos c7] at H
   have c7b0 : ((rd l0 x5_1) == (rd l1 x5_1)) = true := beq_iff_eq.mpr c7
   have c7b1 : ((rd l0 x5_1) != (rd l1 x5_1)) = false := bne_eq_false_iff_eq.mpr c7
   clear c7
   as_aux_lemma =>
    have H' := Aside0.mk H
    clear H
    have p111 : 0 ≤ (x5_1 : Int) := of_decide_eq_true (by first | (with_reducible assumption) | assumption)
    have q111 : x5_1 < (l0.length : Int) := of_decide_eq_true (by first | (with_reducible assumption) | assumption)
    obtain ⟨ad111, e111, hx111_0⟩ := Kd.at_int HR0.out x5_1 p111 q111
    cases e111
    replace p111 := eq_true p111
    replace q111 := eq_true q111
    have p112 : 0 ≤ (x5_1 : Int) := of_decide_eq_true (by first | (with_reducible assumption) | assumption)
    have q112 : x5_1 < (l1.length : Int) := of_decide_eq_true (by first | (with_reducible assumption) | assumption)
    obtain ⟨ad112, e112, hx112_0⟩ := Kd.at_int HR1.out x5_1 p112 q112
    cases e112
    replace p112 := eq_true p112
    replace q112 := eq_true q112
    go_wp2
    repeat (go_quiet (fail); try go_wp2)
    go_roundg k1
    case measure => have := HK1.out; omega
    case rel => exact ⟨(wrap64 (x5_1 + 1)), (by first | rfl | (simp; done) | (simp [*]; done)), H', ⟨by have := HK1.out; omega⟩, by repeat (first | exact Drawn0.refl _ | apply Drawn0.step)⟩
noncomputable def rootstocklaw17_SameAction.f (k : Nat) (a0_0 : Int) (l0_1 : List Int) (a0_2 : Bool) (a1_0 : Int) (l1_1 : List Int) (a1_2 : Bool) : Option (Bool) := if a0_0 = a1_0 then (if (a0_2 == a1_2) = true then ((rootstocklaw14_SameInts.f k l0_1 l1_1).bind fun t115 => (some t115)) else (some false)) else (some false)
set_option maxHeartbeats 8000000 in
set_option maxRecDepth 100000 in
theorem rootstocklaw17_SameAction.calls (k : Nat) (a0_0 : Int) (A0_1 : Option Addr) (c0_1 : Nat) (l0_1 : List Int) (a0_2 : Bool) (a1_0 : Int) (A1_1 : Option Addr) (c1_1 : Nat) (l1_1 : List Int) (a1_2 : Bool) (r : Bool) (w : World) (hr0_1 : Kd.C (Kd.int .i64) w A0_1 l0_1.length l0_1) (hc0_1 : l0_1.length ≤ c0_1) (hr1_1 : Kd.C (Kd.int .i64) w A1_1 l1_1.length l1_1) (hc1_1 : l1_1.length ≤ c1_1) (h : rootstocklaw17_SameAction.f k a0_0 l0_1 a0_2 a1_0 l1_1 a1_2 = some r) :
    Calls Tryd.prog 26 #[.agg #[.int .i64 a0_0, .slice A0_1 l0_1.length c0_1, .bool a0_2], .agg #[.int .i64 a1_0, .slice A1_1 l1_1.length c1_1, .bool a1_2]] w fun e w' => e = .returned (.bool r) ∧ Below w.heap.size w w' := by
 have hu46 := Tryd.underlying46
 have HR0_1 := Aside0.mk hr0_1
 have HC0_1 := Aside0.mk hc0_1
 clear hr0_1 hc0_1
 have HR1_1 := Aside0.mk hr1_1
 have HC1_1 := Aside0.mk hc1_1
 clear hr1_1 hc1_1
 have HB := Aside0.mk (Below.refl w.heap.size w)
 have H : (if a0_0 = a1_0 then (if (a0_2 == a1_2) = true then ((rootstocklaw14_SameInts.f k l0_1 l1_1).bind fun t115 => (some t115)) else (some false)) else (some false)) = some r := h
 clear h
 by_cases c3 : a0_0 = a1_0
 rotate_left
 · rw [if_neg c3] at H
   have c3b0 : (a0_0 == a1_0) = false := beq_eq_false_iff_ne.mpr c3
   have c3b1 : (a0_0 != a1_0) = true := bne_iff_ne.mpr c3
   as_aux_lemma =>
    obtain rfl := Option.some.inj H
    go_enter Tryd.func26, Tryd.ntmps26
    go_wp2_with (first | ((with_reducible refine gate_dst (N := 2) rfl ?_); refine box_event ?hg (N := 2) ?hd (cs := #[.int .i64 a0_0, .slice A0_1 l0_1.length c0_1, .bool a0_2]) (t := 46) ?hr ?_; (case hd => rfl); (case hg => rfl); (case hr => first | (go_simp; done) | (go_simp; rfl)); intro gb113 hg w16 hbox hb; have n0_ := Aside0.mk (below_step (by repeat (first | (with_reducible first | exact HB.out | apply below_alloc | apply pw_below_drewN | apply below_drew1) | exact HB.out)) hb); have n1_ := Aside0.mk (hbox); have n2_ := Aside0.mk ((by rw [hg]; exact (below_size (by repeat (first | (with_reducible first | exact HB.out | apply below_alloc | apply pw_below_drewN | apply below_drew1) | exact HB.out))) : w.heap.size ≤ gb113)); have n3_ := Aside0.mk ((by rw [hg]; exact (below_size (by repeat (first | (with_reducible first | exact HB.out | apply below_alloc | apply pw_below_drewN | apply below_drew1) | exact HB.out))) : w.heap.size ≤ gb113)); clear HB; have HB := n0_; have BK113 := n1_; have GW113 := n2_; have GE113 := n3_; clear n0_ n1_ n2_ n3_; clear hb hbox hg) | ((with_reducible refine gate_dst (N := 3) rfl ?_); refine box_event ?hg (N := 3) ?hd (cs := #[.int .i64 a1_0, .slice A1_1 l1_1.length c1_1, .bool a1_2]) (t := 46) ?hr ?_; (case hd => rfl); (case hg => rfl); (case hr => first | (go_simp; done) | (go_simp; rfl)); intro gb114 hg w17 hbox hb; have n0_ := Aside0.mk (blk_below (g := gb113) (o := .cells #[.int .i64 a0_0, .slice A0_1 l0_1.length c0_1, .bool a0_2] 46 (0, 0)) (by (with_reducible repeat (first | refine blk_drewN ?_ _ | refine blk_drew ?_ | refine blk_alloc ?_ _)); exact BK113.out) hb); have n1_ := Aside0.mk (below_step (by repeat (first | (with_reducible first | exact HB.out | apply below_alloc | apply pw_below_drewN | apply below_drew1 | refine below_set ?_ GE113.out) | exact HB.out)) hb); have n2_ := Aside0.mk (hbox); have n3_ := Aside0.mk ((by rw [hg]; exact (below_size (by repeat (first | (with_reducible first | exact HB.out | apply below_alloc | apply pw_below_drewN | apply below_drew1 | refine below_set ?_ GE113.out) | exact HB.out))) : w.heap.size ≤ gb114)); have n4_ := Aside0.mk ((by rw [hg]; exact (below_size (by repeat (first | (with_reducible first | exact HB.out | apply below_alloc | apply pw_below_drewN | apply below_drew1 | refine below_set ?_ GE113.out) | exact HB.out))) : w.heap.size ≤ gb114)); have n5_ := Aside0.mk ((by rw [hg]; exact Nat.ne_of_lt (blk_lt (g := gb113) (o := .cells #[.int .i64 a0_0, .slice A0_1 l0_1.length c0_1, .bool a0_2] 46 (0, 0)) (by (with_reducible repeat (first | refine blk_drewN ?_ _ | refine blk_drew ?_ | refine blk_alloc ?_ _)); exact BK113.out)) : gb113 ≠ gb114)); have n6_ := Aside0.mk ((by rw [hg]; exact Nat.ne_of_gt (blk_lt (g := gb113) (o := .cells #[.int .i64 a0_0, .slice A0_1 l0_1.length c0_1, .bool a0_2] 46 (0, 0)) (by (with_reducible repeat (first | refine blk_drewN ?_ _ | refine blk_drew ?_ | refine blk_alloc ?_ _)); exact BK113.out)) : gb114 ≠ gb113)); clear BK113; clear HB; have BK113 := n0_; have HB := n1_; have BK114 := n2_; have GW114 := n3_; have GE114 := n4_; have NB113_114 := n5_; have NB114_113 := n6_; clear n0_ n1_ n2_ n3_ n4_ n5_ n6_; clear hb hbox hg; have hnb18 := NB113_114.out; have hnc18 := NB114_113.out; have hcz19_0 : w17.cell? ⟨gb113, 0, none⟩ = some (.int .i64 a0_0) := (blk_cell BK113.out 0).trans rfl; have hcz19_1 : w17.cell? ⟨gb113, 1, none⟩ = some (.slice A0_1 l0_1.length c0_1) := (blk_cell BK113.out 1).trans rfl; have hcz19_2 : w17.cell? ⟨gb113, 2, none⟩ = some (.bool a0_2) := (blk_cell BK113.out 2).trans rfl; have hfz19_0 := blk_frozen BK113.out 0; have hfz19_1 := blk_frozen BK113.out 1; have hfz19_2 := blk_frozen BK113.out 2; have hcz20_0 : w17.cell? ⟨gb114, 0, none⟩ = some (.int .i64 a1_0) := (blk_cell BK114.out 0).trans rfl; have hcz20_1 : w17.cell? ⟨gb114, 1, none⟩ = some (.slice A1_1 l1_1.length c1_1) := (blk_cell BK114.out 1).trans rfl; have hcz20_2 : w17.cell? ⟨gb114, 2, none⟩ = some (.bool a1_2) := (blk_cell BK114.out 2).trans rfl; have hfz20_0 := blk_frozen BK114.out 0; have hfz20_1 := blk_frozen BK114.out 1; have hfz20_2 := blk_frozen BK114.out 2))
    go_ret
    exact ⟨by first | rfl | (simp [errW_none, errW_some] <;> rfl) | (simp [*, errW_none, errW_some] <;> rfl), by repeat (first | (with_reducible first | exact HB.out | apply below_alloc | apply pw_below_drewN | apply below_drew1 | refine below_set ?_ GE113.out | refine below_set ?_ GE114.out) | exact HB.out)⟩
 rw [if_pos c3] at H
 have c3b0 : (a0_0 == a1_0) = true := beq_iff_eq.mpr c3
 have c3b1 : (a0_0 != a1_0) = false := bne_eq_false_iff_eq.mpr c3
 clear c3
 by_cases c4 : (a0_2 == a1_2) = true
 rotate_left
 · rw [if_neg c4] at H
   have c4b0 : (a0_2 == a1_2) = false := by simpa using c4
   (try (have c4b1 : decide (a0_2 = a1_2) = false := by simpa using c4))
   (try (have c4b2 : (a0_2 == a1_2) = false := by simpa using c4))
   (try (have c4b3 : ¬ (a0_2 = a1_2) := by simpa using c4))
   clear c4
   as_aux_lemma =>
    obtain rfl := Option.some.inj H
    go_enter Tryd.func26, Tryd.ntmps26
    go_wp2_with (first | ((with_reducible refine gate_dst (N := 2) rfl ?_); refine box_event ?hg (N := 2) ?hd (cs := #[.int .i64 a0_0, .slice A0_1 l0_1.length c0_1, .bool a0_2]) (t := 46) ?hr ?_; (case hd => rfl); (case hg => rfl); (case hr => first | (go_simp; done) | (go_simp; rfl)); intro gb113 hg w11 hbox hb; have n0_ := Aside0.mk (below_step (by repeat (first | (with_reducible first | exact HB.out | apply below_alloc | apply pw_below_drewN | apply below_drew1) | exact HB.out)) hb); have n1_ := Aside0.mk (hbox); have n2_ := Aside0.mk ((by rw [hg]; exact (below_size (by repeat (first | (with_reducible first | exact HB.out | apply below_alloc | apply pw_below_drewN | apply below_drew1) | exact HB.out))) : w.heap.size ≤ gb113)); have n3_ := Aside0.mk ((by rw [hg]; exact (below_size (by repeat (first | (with_reducible first | exact HB.out | apply below_alloc | apply pw_below_drewN | apply below_drew1) | exact HB.out))) : w.heap.size ≤ gb113)); clear HB; have HB := n0_; have BK113 := n1_; have GW113 := n2_; have GE113 := n3_; clear n0_ n1_ n2_ n3_; clear hb hbox hg) | ((with_reducible refine gate_dst (N := 3) rfl ?_); refine box_event ?hg (N := 3) ?hd (cs := #[.int .i64 a1_0, .slice A1_1 l1_1.length c1_1, .bool a1_2]) (t := 46) ?hr ?_; (case hd => rfl); (case hg => rfl); (case hr => first | (go_simp; done) | (go_simp; rfl)); intro gb114 hg w12 hbox hb; have n0_ := Aside0.mk (blk_below (g := gb113) (o := .cells #[.int .i64 a0_0, .slice A0_1 l0_1.length c0_1, .bool a0_2] 46 (0, 0)) (by (with_reducible repeat (first | refine blk_drewN ?_ _ | refine blk_drew ?_ | refine blk_alloc ?_ _)); exact BK113.out) hb); have n1_ := Aside0.mk (below_step (by repeat (first | (with_reducible first | exact HB.out | apply below_alloc | apply pw_below_drewN | apply below_drew1 | refine below_set ?_ GE113.out) | exact HB.out)) hb); have n2_ := Aside0.mk (hbox); have n3_ := Aside0.mk ((by rw [hg]; exact (below_size (by repeat (first | (with_reducible first | exact HB.out | apply below_alloc | apply pw_below_drewN | apply below_drew1 | refine below_set ?_ GE113.out) | exact HB.out))) : w.heap.size ≤ gb114)); have n4_ := Aside0.mk ((by rw [hg]; exact (below_size (by repeat (first | (with_reducible first | exact HB.out | apply below_alloc | apply pw_below_drewN | apply below_drew1 | refine below_set ?_ GE113.out) | exact HB.out))) : w.heap.size ≤ gb114)); have n5_ := Aside0.mk ((by rw [hg]; exact Nat.ne_of_lt (blk_lt (g := gb113) (o := .cells #[.int .i64 a0_0, .slice A0_1 l0_1.length c0_1, .bool a0_2] 46 (0, 0)) (by (with_reducible repeat (first | refine blk_drewN ?_ _ | refine blk_drew ?_ | refine blk_alloc ?_ _)); exact BK113.out)) : gb113 ≠ gb114)); have n6_ := Aside0.mk ((by rw [hg]; exact Nat.ne_of_gt (blk_lt (g := gb113) (o := .cells #[.int .i64 a0_0, .slice A0_1 l0_1.length c0_1, .bool a0_2] 46 (0, 0)) (by (with_reducible repeat (first | refine blk_drewN ?_ _ | refine blk_drew ?_ | refine blk_alloc ?_ _)); exact BK113.out)) : gb114 ≠ gb113)); clear BK113; clear HB; have BK113 := n0_; have HB := n1_; have BK114 := n2_; have GW114 := n3_; have GE114 := n4_; have NB113_114 := n5_; have NB114_113 := n6_; clear n0_ n1_ n2_ n3_ n4_ n5_ n6_; clear hb hbox hg; have hnb13 := NB113_114.out; have hnc13 := NB114_113.out; have hcz14_0 : w12.cell? ⟨gb113, 0, none⟩ = some (.int .i64 a0_0) := (blk_cell BK113.out 0).trans rfl; have hcz14_1 : w12.cell? ⟨gb113, 1, none⟩ = some (.slice A0_1 l0_1.length c0_1) := (blk_cell BK113.out 1).trans rfl; have hcz14_2 : w12.cell? ⟨gb113, 2, none⟩ = some (.bool a0_2) := (blk_cell BK113.out 2).trans rfl; have hfz14_0 := blk_frozen BK113.out 0; have hfz14_1 := blk_frozen BK113.out 1; have hfz14_2 := blk_frozen BK113.out 2; have hcz15_0 : w12.cell? ⟨gb114, 0, none⟩ = some (.int .i64 a1_0) := (blk_cell BK114.out 0).trans rfl; have hcz15_1 : w12.cell? ⟨gb114, 1, none⟩ = some (.slice A1_1 l1_1.length c1_1) := (blk_cell BK114.out 1).trans rfl; have hcz15_2 : w12.cell? ⟨gb114, 2, none⟩ = some (.bool a1_2) := (blk_cell BK114.out 2).trans rfl; have hfz15_0 := blk_frozen BK114.out 0; have hfz15_1 := blk_frozen BK114.out 1; have hfz15_2 := blk_frozen BK114.out 2))
    go_ret
    exact ⟨by first | rfl | (simp [errW_none, errW_some] <;> rfl) | (simp [*, errW_none, errW_some] <;> rfl), by repeat (first | (with_reducible first | exact HB.out | apply below_alloc | apply pw_below_drewN | apply below_drew1 | refine below_set ?_ GE113.out | refine below_set ?_ GE114.out) | exact HB.out)⟩
 rw [if_pos c4] at H
 have c4b0 : (a0_2 == a1_2) = true := c4
 (try (have c4b1 : decide (a0_2 = a1_2) = true := by simpa using c4))
 (try (have c4b2 : (a0_2 == a1_2) = true := by simpa using c4))
 clear c4
 replace H := Option.bind_eq_some_iff.mp H
 obtain ⟨t115, A50, H⟩ := H
 replace H : (some t115) = some r := H
 have A5 := Aside0.mk A50
 clear A50
 as_aux_lemma =>
  obtain rfl := Option.some.inj H
  go_enter Tryd.func26, Tryd.ntmps26
  go_wp2_with (first | ((with_reducible refine gate_dst (N := 2) rfl ?_); refine box_event ?hg (N := 2) ?hd (cs := #[.int .i64 a0_0, .slice A0_1 l0_1.length c0_1, .bool a0_2]) (t := 46) ?hr ?_; (case hd => rfl); (case hg => rfl); (case hr => first | (go_simp; done) | (go_simp; rfl)); intro gb113 hg w6 hbox hb; have n0_ := Aside0.mk (below_step (by repeat (first | (with_reducible first | exact HB.out | apply below_alloc | apply pw_below_drewN | apply below_drew1) | exact HB.out)) hb); have n1_ := Aside0.mk (hbox); have n2_ := Aside0.mk ((by rw [hg]; exact (below_size (by repeat (first | (with_reducible first | exact HB.out | apply below_alloc | apply pw_below_drewN | apply below_drew1) | exact HB.out))) : w.heap.size ≤ gb113)); have n3_ := Aside0.mk ((by rw [hg]; exact (below_size (by repeat (first | (with_reducible first | exact HB.out | apply below_alloc | apply pw_below_drewN | apply below_drew1) | exact HB.out))) : w.heap.size ≤ gb113)); clear HB; have HB := n0_; have BK113 := n1_; have GW113 := n2_; have GE113 := n3_; clear n0_ n1_ n2_ n3_; clear hb hbox hg) | ((with_reducible refine gate_dst (N := 3) rfl ?_); refine box_event ?hg (N := 3) ?hd (cs := #[.int .i64 a1_0, .slice A1_1 l1_1.length c1_1, .bool a1_2]) (t := 46) ?hr ?_; (case hd => rfl); (case hg => rfl); (case hr => first | (go_simp; done) | (go_simp; rfl)); intro gb114 hg w7 hbox hb; have n0_ := Aside0.mk (blk_below (g := gb113) (o := .cells #[.int .i64 a0_0, .slice A0_1 l0_1.length c0_1, .bool a0_2] 46 (0, 0)) (by (with_reducible repeat (first | refine blk_drewN ?_ _ | refine blk_drew ?_ | refine blk_alloc ?_ _)); exact BK113.out) hb); have n1_ := Aside0.mk (below_step (by repeat (first | (with_reducible first | exact HB.out | apply below_alloc | apply pw_below_drewN | apply below_drew1 | refine below_set ?_ GE113.out) | exact HB.out)) hb); have n2_ := Aside0.mk (hbox); have n3_ := Aside0.mk ((by rw [hg]; exact (below_size (by repeat (first | (with_reducible first | exact HB.out | apply below_alloc | apply pw_below_drewN | apply below_drew1 | refine below_set ?_ GE113.out) | exact HB.out))) : w.heap.size ≤ gb114)); have n4_ := Aside0.mk ((by rw [hg]; exact (below_size (by repeat (first | (with_reducible first | exact HB.out | apply below_alloc | apply pw_below_drewN | apply below_drew1 | refine below_set ?_ GE113.out) | exact HB.out))) : w.heap.size ≤ gb114)); have n5_ := Aside0.mk ((by rw [hg]; exact Nat.ne_of_lt (blk_lt (g := gb113) (o := .cells #[.int .i64 a0_0, .slice A0_1 l0_1.length c0_1, .bool a0_2] 46 (0, 0)) (by (with_reducible repeat (first | refine blk_drewN ?_ _ | refine blk_drew ?_ | refine blk_alloc ?_ _)); exact BK113.out)) : gb113 ≠ gb114)); have n6_ := Aside0.mk ((by rw [hg]; exact Nat.ne_of_gt (blk_lt (g := gb113) (o := .cells #[.int .i64 a0_0, .slice A0_1 l0_1.length c0_1, .bool a0_2] 46 (0, 0)) (by (with_reducible repeat (first | refine blk_drewN ?_ _ | refine blk_drew ?_ | refine blk_alloc ?_ _)); exact BK113.out)) : gb114 ≠ gb113)); clear BK113; clear HB; have BK113 := n0_; have HB := n1_; have BK114 := n2_; have GW114 := n3_; have GE114 := n4_; have NB113_114 := n5_; have NB114_113 := n6_; clear n0_ n1_ n2_ n3_ n4_ n5_ n6_; clear hb hbox hg; have hnb8 := NB113_114.out; have hnc8 := NB114_113.out; have hcz9_0 : w7.cell? ⟨gb113, 0, none⟩ = some (.int .i64 a0_0) := (blk_cell BK113.out 0).trans rfl; have hcz9_1 : w7.cell? ⟨gb113, 1, none⟩ = some (.slice A0_1 l0_1.length c0_1) := (blk_cell BK113.out 1).trans rfl; have hcz9_2 : w7.cell? ⟨gb113, 2, none⟩ = some (.bool a0_2) := (blk_cell BK113.out 2).trans rfl; have hfz9_0 := blk_frozen BK113.out 0; have hfz9_1 := blk_frozen BK113.out 1; have hfz9_2 := blk_frozen BK113.out 2; have hcz10_0 : w7.cell? ⟨gb114, 0, none⟩ = some (.int .i64 a1_0) := (blk_cell BK114.out 0).trans rfl; have hcz10_1 : w7.cell? ⟨gb114, 1, none⟩ = some (.slice A1_1 l1_1.length c1_1) := (blk_cell BK114.out 1).trans rfl; have hcz10_2 : w7.cell? ⟨gb114, 2, none⟩ = some (.bool a1_2) := (blk_cell BK114.out 2).trans rfl; have hfz10_0 := blk_frozen BK114.out 0; have hfz10_1 := blk_frozen BK114.out 1; have hfz10_2 := blk_frozen BK114.out 2) | (go_at_call 37; (with_reducible refine (rootstocklaw14_SameInts.calls k _ _ l0_1 _ _ l1_1 t115 _ ?side1 ?side2 ?side3 ?side4 A5.out).mono ?_); (case side1 => repeat (first | exact (Kd.C_below HR0_1.out HB.out) | (with_reducible refine Kd.C_alloc ?_ _) | (with_reducible refine Kd.C_drewN ?_ _) | (with_reducible refine Kd.C_drew ?_))); (case side2 => exact HC0_1.out); (case side3 => repeat (first | exact (Kd.C_below HR1_1.out HB.out) | (with_reducible refine Kd.C_alloc ?_ _) | (with_reducible refine Kd.C_drewN ?_ _) | (with_reducible refine Kd.C_drew ?_))); (case side4 => exact HC1_1.out); rintro e w' ⟨rfl, ⟨nd, rfl⟩⟩))
  go_ret
  exact ⟨by first | rfl | (simp [errW_none, errW_some] <;> rfl) | (simp [*, errW_none, errW_some] <;> rfl), by repeat (first | (with_reducible first | exact HB.out | apply below_alloc | apply pw_below_drewN | apply below_drew1 | refine below_set ?_ GE113.out | refine below_set ?_ GE114.out) | exact HB.out)⟩
end Go.Proofs.YtaooejidkeojjaaDoor.PLi
namespace Go.Proofs.YtaooejidkeojjaaDoor.PLi
open Go.RowKit Go.Proofs.YtaooejidkeojjaaDoorW.PrintWords Go.Proofs.YtaooejidkeojjaaDoorW.PrintLast Go.Proofs.YtaooejidkeojjaaDoorW.PrintMore
set_option linter.unusedVariables false
set_option linter.unusedSimpArgs false
set_option maxRecDepth 100000
def sumsL : List S49 := [⟨2, [2, 1, 2], false⟩, ⟨2, [0], false⟩]
def acOf (x : Int × List Int × Bool) : S46 := ⟨x.1, x.2.1, x.2.2⟩
def sumsA : List (List S46) := [[⟨1, [], false⟩, ⟨-1, [], false⟩, ⟨-1, [], false⟩], [⟨-1, [], false⟩, ⟨-1, [1], false⟩, ⟨-1, [1], false⟩], [⟨-1, [], false⟩, ⟨3, [], false⟩, ⟨-1, [], true⟩], [⟨1, [], false⟩, ⟨-1, [], false⟩, ⟨-1, [], false⟩], [⟨-1, [], false⟩, ⟨3, [0], false⟩, ⟨-1, [0], false⟩]]
def sumsT : List (List Int) := [[1, -1, 2], [-1, -1, -1], [-1, 3, -1], [1, -1, 4], [-1, 3, -1]]
theorem sums_of : tables_Of.f 2 3 2 sumsL = some (2, 3, 2, sumsL, sumsA, sumsT, 0) := by
  have e : toGr 2 3 2 sumsL = H.sumsG := rfl
  unfold tables_Of.f tabP
  rw [e, if_neg (by rw [H.sums_check]; simp), if_neg (by rw [H.sums_full]; exact Bool.false_ne_true), H.sums_led]
  have h : (H.statesM H.sumsG).sts.map (fun s => (H.actsM H.sumsG (H.firstEnd H.sumsG) s).map unAc) = sumsA := by
    have h1 := congrArg (List.map (List.map acOf)) H.sums_acts
    rw [List.map_map] at h1
    have e2 : (List.map acOf ∘ fun s => (H.actsM H.sumsG (H.firstEnd H.sumsG) s).map fun a => (a.sh, a.rd, a.ac)) = fun s => (H.actsM H.sumsG (H.firstEnd H.sumsG) s).map unAc := by
      funext s
      simp only [Function.comp, List.map_map]
      rfl
    rw [e2] at h1
    exact h1
  rw [h]
  rfl
theorem sums_clash : ∃ k, tables_Clashes.f k 2 3 2 sumsL sumsA sumsT = some [⟨4, 1⟩] := ⟨60, by kernel_rfl⟩
theorem sums_same : ∃ k, rootstocklaw17_SameAction.f k 3 [0] false 3 [0] false = some true := ⟨20, by kernel_rfl⟩
section
variable {α : Type} {d : Kd α} {t e g n c b : Nat} {W : World} {ok : Nat → Prop} {v : Value}
theorem own_head {xs : List α} (h : d.R e W b ok v xs) (hn : 0 < xs.length) : ∃ g c, v = .slice (some ⟨g, 0, none⟩) xs.length c ∧ g < W.heap.size := by
  obtain ⟨g, c, e, _, hl, _⟩ := Kd.R_form h hn
  exact ⟨g, c, e, hl⟩
theorem own_in {xs : List (List α)} (h : Kd.R (Kd.slice t d) e W b ok (.slice (some ⟨g, 0, none⟩) n c) xs) (i : Nat) (hi : i < n) : ∃ v ok', W.cell? ⟨g, i, none⟩ = some v ∧ d.R t W b ok' v (xs.getD i []) := by
  obtain ⟨cs, _, ⟨v, rfl, hR⟩, hc⟩ := Kd.R_getA h ([] : List α) (i : Int) (by omega) (by omega)
  refine ⟨v, _, ?_, hR⟩
  have h0 := hc 0 v rfl
  have es : (Kd.slice t d).sz = 1 := rfl
  rw [es, Nat.mul_one, Nat.add_zero, add_at, Nat.zero_add] at h0
  exact h0
theorem act_in {xs : List S46} (h : Kd.R k46 46 W b ok (.slice (some ⟨g, 0, none⟩) n c) xs) (i : Nat) (hi : i < n) : ∃ v ok', W.cell? ⟨g, i * 3, none⟩ = some (.int .i64 (xs.getD i z46).f0) ∧ W.cell? ⟨g, i * 3 + 1, none⟩ = some v ∧ W.cell? ⟨g, i * 3 + 2, none⟩ = some (.bool (xs.getD i z46).f2) ∧ (Kd.int .i64).R 3 W b ok' v (xs.getD i z46).f1 := by
  obtain ⟨cs, _, hM, hc⟩ := Kd.R_getA h z46 (i : Int) (by omega) (by omega)
  obtain ⟨v, rfl, hR⟩ := k46_openM hM
  have es : k46.sz = 3 := rfl
  have h0 := hc 0 _ rfl
  have h1 := hc 1 _ rfl
  have h2 := hc 2 _ rfl
  simp only [es, add_at, Nat.zero_add, Int.toNat_natCast] at h0 h1 h2
  exact ⟨v, _, h0, h1, h2, hR⟩
theorem int_in {xs : List Int} (h : (Kd.int .i64).R 3 W b ok (.slice (some ⟨g, 0, none⟩) n c) xs) (i : Nat) (hi : i < n) : W.cell? ⟨g, i, none⟩ = some (.int .i64 (xs.getD i 0)) := by
  obtain ⟨cs, _, hM, hc⟩ := Kd.R_getA h (0 : Int) (i : Int) (by omega) (by omega)
  have hM' : cs = [.int .i64 (xs.getD i 0)] := hM
  subst hM'
  have h0 := hc 0 _ rfl
  have es : (Kd.int .i64).sz = 1 := rfl
  rw [es, Nat.mul_one, Nat.add_zero, add_at, Nat.zero_add] at h0
  exact h0
end
theorem eqA41 (W : World) : (Op.equalIn 10000 41 (.agg #[.int .i64 4, .int .i64 1]) (.agg #[.int .i64 4, .int .i64 1])).run Tryd.prog W = .ok true W := by kernel_rfl
attribute [local go_sem high] eqA41
set_option maxHeartbeats 8000000 in
theorem lives_any (w : World) (hl : H.Laid w) : Calls Tryd.prog 9 #[] w fun e w' => e = .returned (.bool true) ∧ Below w.heap.size w w' := by
  have HL := H.Keep.mk hl
  clear hl
  go_enter Tryd.func9, Tryd.ntmps9
  go_wp2_with fail
  refine (rootstocklaw14_Sums.calls 2 3 2 sumsL w rfl).mono ?_
  rintro e w1 ⟨vS, rfl, hR, hb⟩
  obtain ⟨A1, c1, e1, l1, hC⟩ := Kd.R_reads hR
  subst e1
  have B1 := H.Keep.mk hb
  have C1 := H.Keep.mk hC
  have L1 := H.Keep.mk l1
  have HL1 := H.Keep.mk (HL.out.below hb)
  clear hR hb hC l1
  dsimp only
  go_wp2_with fail
  refine (tables_Of.calls 2 3 2 A1 c1 sumsL 2 3 2 sumsL sumsA sumsT 0 w1 C1.out L1.out sums_of HL1.out).mono ?_
  rintro e w2 ⟨v3, v4, v5, rfl, hP, hA, hT, hb⟩
  obtain ⟨gP, cP, e3, _⟩ := own_head hP (by decide)
  obtain ⟨gA, cA, e4, lA⟩ := own_head hA (by decide)
  obtain ⟨gT, cT, e5, lT⟩ := own_head hT (by decide)
  subst e3 e4 e5
  obtain ⟨v0, o0, a0, r0⟩ := own_in hA 0 (by decide)
  obtain ⟨v2, o2, a2, r2⟩ := own_in hA 2 (by decide)
  obtain ⟨v4, o4, a4, r4⟩ := own_in hA 4 (by decide)
  obtain ⟨u0, p0, b0, s0⟩ := own_in hT 0 (by decide)
  obtain ⟨g0, c0, e0, _⟩ := own_head r0 (by decide)
  obtain ⟨g2, c2, e2, _⟩ := own_head r2 (by decide)
  obtain ⟨g4, c4, e4, _⟩ := own_head r4 (by decide)
  obtain ⟨t0, d0, e5, _⟩ := own_head s0 (by decide)
  subst e0 e2 e4 e5
  obtain ⟨_, _, x0, _, _, _⟩ := act_in r0 0 (by decide)
  obtain ⟨_, _, _, _, x2, _⟩ := act_in r2 2 (by decide)
  obtain ⟨v9, o9, x4, x5, x6, r9⟩ := act_in r4 1 (by decide)
  have y2 := int_in s0 2 (by decide)
  have y1 := int_in s0 1 (by decide)
  obtain ⟨A9, c9, e9, l9, C9⟩ := Kd.R_reads r9
  subst e9
  have HC9 := H.Keep.mk C9
  have HL9 := H.Keep.mk l9
  obtain ⟨_, hlP, hCP⟩ := Kd.R_reads' hP
  obtain ⟨_, hlA, hCA⟩ := Kd.R_reads' hA
  obtain ⟨_, hlT, hCT⟩ := Kd.R_reads' hT
  have B2 := H.Keep.mk (H.below_step B1.out hb B1.out.size)
  have KP := H.Keep.mk hCP
  have KA := H.Keep.mk hCA
  have KT := H.Keep.mk hCT
  have KLP := H.Keep.mk hlP
  have KLA := H.Keep.mk hlA
  have KLT := H.Keep.mk hlT
  have FCT : H.Keep (∀ W, Below w2.heap.size w2 W → W.cell? ⟨gA, 0, none⟩ = some (.slice (some ⟨g0, 0, none⟩) 3 c0) ∧ W.cell? ⟨gA, 2, none⟩ = some (.slice (some ⟨g2, 0, none⟩) 3 c2) ∧ W.cell? ⟨gA, 4, none⟩ = some (.slice (some ⟨g4, 0, none⟩) 3 c4) ∧ W.cell? ⟨gT, 0, none⟩ = some (.slice (some ⟨t0, 0, none⟩) 3 d0) ∧
      W.cell? ⟨g0, 0, none⟩ = some (.int .i64 1) ∧ W.cell? ⟨g2, 8, none⟩ = some (.bool true) ∧ W.cell? ⟨g4, 3, none⟩ = some (.int .i64 3) ∧ W.cell? ⟨g4, 4, none⟩ = some (.slice A9 1 c9) ∧ W.cell? ⟨g4, 5, none⟩ = some (.bool false) ∧ W.cell? ⟨t0, 2, none⟩ = some (.int .i64 2) ∧ W.cell? ⟨t0, 1, none⟩ = some (.int .i64 (-1))) := ⟨fun W hW =>
    ⟨H.cell_below a0 hW (H.cell_lt a0), H.cell_below a2 hW (H.cell_lt a2), H.cell_below a4 hW (H.cell_lt a4), H.cell_below b0 hW (H.cell_lt b0), H.cell_below x0 hW (H.cell_lt x0), H.cell_below x2 hW (H.cell_lt x2), H.cell_below x4 hW (H.cell_lt x4), H.cell_below x5 hW (H.cell_lt x5), H.cell_below x6 hW (H.cell_lt x6), H.cell_below y2 hW (H.cell_lt y2), H.cell_below y1 hW (H.cell_lt y1)⟩⟩
  clear hP hA hT hb a0 a2 a4 b0 r0 r2 r4 s0 x0 x2 x4 x5 x6 y2 y1 r9 C9 l9 hCP hCA hCT hlP hlA hlT lA lT
  have hTB : H.Blk (w2.alloc (.cells #[.int .i64 0, .int .i64 0, .int .i64 0, .slice none 0 0, .slice none 0 0, .slice none 0 0] 30)) w2.heap.size 30 #[.int .i64 0, .int .i64 0, .int .i64 0, .slice none 0 0, .slice none 0 0, .slice none 0 0] := H.Blk.new _ _ _
  have TH : H.Keep ((w2.alloc (.cells #[.int .i64 0, .int .i64 0, .int .i64 0, .slice none 0 0, .slice none 0 0, .slice none 0 0] 30)).there w2.heap.size 0 6) := ⟨fun j hj => by
    rw [Nat.zero_add, hTB.cell j, hTB.frozen j]
    refine ⟨?_, rfl⟩
    rcases j with _ | _ | _ | _ | _ | _ | j <;> first | rfl | omega⟩
  have hB3 : Below w2.heap.size w2 (w2.alloc (.cells #[.int .i64 0, .int .i64 0, .int .i64 0, .slice none 0 0, .slice none 0 0, .slice none 0 0] 30)) := (Below.refl _ _).alloc (Nat.le_refl _) _
  obtain ⟨w3, hw3⟩ : ∃ W : World, W = (w2.alloc (.cells #[.int .i64 0, .int .i64 0, .int .i64 0, .slice none 0 0, .slice none 0 0, .slice none 0 0] 30)).setCells w2.heap.size 0 [.int .i64 2, .int .i64 3, .int .i64 2, .slice (some ⟨gP, 0, none⟩) 2 cP, .slice (some ⟨gA, 0, none⟩) 5 cA, .slice (some ⟨gT, 0, none⟩) 5 cT] := ⟨_, rfl⟩
  have BK3 : H.Keep (H.Blk w3 w2.heap.size 30 #[.int .i64 2, .int .i64 3, .int .i64 2, .slice (some ⟨gP, 0, none⟩) 2 cP, .slice (some ⟨gA, 0, none⟩) 5 cA, .slice (some ⟨gT, 0, none⟩) 5 cT]) := ⟨by
    rw [hw3]
    exact ((((((hTB.set_ 0 (.int .i64 2)).set_ 1 (.int .i64 3)).set_ 2 (.int .i64 2)).set_ 3 (.slice (some ⟨gP, 0, none⟩) 2 cP)).set_ 4 (.slice (some ⟨gA, 0, none⟩) 5 cA)).set_ 5 (.slice (some ⟨gT, 0, none⟩) 5 cT))⟩
  have BL3 : H.Keep (Below w2.heap.size w2 w3) := ⟨by
    rw [hw3]
    have l := Nat.le_refl w2.heap.size
    exact ((((((hB3.setCell l (.int .i64 2)).setCell l (.int .i64 3)).setCell l (.int .i64 2)).setCell l (.slice (some ⟨gP, 0, none⟩) 2 cP)).setCell l (.slice (some ⟨gA, 0, none⟩) 5 cA)).setCell l (.slice (some ⟨gT, 0, none⟩) 5 cT))⟩
  have HW3 := H.Keep.mk hw3
  clear hTB hB3 hw3
  dsimp only
  go_upto_region 2 with (refine wpList_store_mid rfl _ _ _ rfl w2.heap.size 0 #[.int .i64 2, .int .i64 3, .int .i64 2, .slice (some ⟨gP, 0, none⟩) 2 cP, .slice (some ⟨gA, 0, none⟩) 5 cA, .slice (some ⟨gT, 0, none⟩) 5 cT] rfl rfl TH.out (by kernel_rfl) (by simp [Value.oneCell']) ?_; rw [← HW3.out])
  have d0 := BK3.out.cell 0
  have d1 := BK3.out.cell 1
  have d2 := BK3.out.cell 2
  have d3 := BK3.out.cell 3
  have d4 := BK3.out.cell 4
  have d5 := BK3.out.cell 5
  simp at d0 d1 d2 d3 d4 d5
  obtain ⟨f1, f2, f3, f4, f5, f6, f7, f8, f9, f10, f11⟩ := FCT.out w3 BL3.out
  have nT := BK3.out.lt
  have KC : H.Keep (Calls Tryd.prog 15 #[.agg #[.int .i64 2, .int .i64 3, .int .i64 2, .slice (some ⟨gP, 0, none⟩) 2 cP, .slice (some ⟨gA, 0, none⟩) 5 cA, .slice (some ⟨gT, 0, none⟩) 5 cT]] w3 fun e w' => ∃ v0_ : Value, e = .returned (v0_) ∧ Kd.R k41 41 w' w3.heap.size (fun _ => True) v0_ [⟨4, 1⟩] ∧ Below w3.heap.size w3 w') := ⟨by
    obtain ⟨k, hk⟩ := sums_clash
    exact tables_Clashes.calls k 2 3 2 (some ⟨gP, 0, none⟩) cP sumsL (some ⟨gA, 0, none⟩) cA sumsA (some ⟨gT, 0, none⟩) cT sumsT [⟨4, 1⟩] w3 (Kd.C_below KP.out BL3.out) KLP.out (Kd.C_below KA.out BL3.out) KLA.out (Kd.C_below KT.out BL3.out) KLT.out hk⟩
  clear HW3 TH
  obtain ⟨tB, htB⟩ : ∃ n, n = w2.heap.size := ⟨_, rfl⟩
  rw [← htB] at d0 d1 d2 d3 d4 d5 nT ⊢
  clear htB BK3
  go_upto_region 4 with fail
  go_wp2_with fail
  refine KC.out.mono ?_
  rintro e w4 ⟨vC, rfl, hR, hb⟩
  obtain ⟨gC, cC, eC, lC⟩ := own_head hR (by decide)
  subst eC
  obtain ⟨cs, _, hM, hc⟩ := Kd.R_getA hR z41 0 (by decide) (by decide)
  have hM' : k41.M w4 w3.heap.size _ ⟨4, 1⟩ cs := hM
  have hcs := k41_openM hM'
  dsimp only at hcs
  subst hcs
  have q0 : w4.cell? ⟨gC, 0, none⟩ = some (.int .i64 4) := by
    have := hc 0 _ rfl
    simpa [add_at] using this
  have q1 : w4.cell? ⟨gC, 1, none⟩ = some (.int .i64 1) := by
    have := hc 1 _ rfl
    simpa [add_at] using this
  have B4 := H.Keep.mk (H.below_step B2.out (H.below_step BL3.out hb BL3.out.size) B2.out.size)
  have BL4 := H.Keep.mk (H.below_step BL3.out hb BL3.out.size)
  have F4 : H.Keep (∀ W, Below w4.heap.size w4 W → W.cell? ⟨tB, 4, none⟩ = some (.slice (some ⟨gA, 0, none⟩) 5 cA) ∧ W.cell? ⟨tB, 5, none⟩ = some (.slice (some ⟨gT, 0, none⟩) 5 cT) ∧ W.cell? ⟨gC, 0, none⟩ = some (.int .i64 4) ∧ W.cell? ⟨gC, 1, none⟩ = some (.int .i64 1)) := ⟨fun W hW =>
    ⟨H.cell_below (H.cell_below d4 hb nT) hW (Nat.lt_of_lt_of_le nT hb.size), H.cell_below (H.cell_below d5 hb nT) hW (Nat.lt_of_lt_of_le nT hb.size), H.cell_below q0 hW lC, H.cell_below q1 hW lC⟩⟩
  have FW : H.Keep (∀ W, Below w4.heap.size w4 W → Below w2.heap.size w2 W) := ⟨fun W hW => H.below_step (H.below_step BL3.out hb BL3.out.size) hW (Nat.le_trans BL3.out.size hb.size)⟩
  clear hR hb hM hM' hc q0 q1 d0 d1 d2 d3 d4 d5 f1 f2 f3 f4 f5 f6 f7 f8 f9 f10 f11 KC
  obtain ⟨d4, d5, q0, q1⟩ := F4.out w4 (Below.refl _ _)
  obtain ⟨f1, f2, f3, f4, f5, f6, f7, f8, f9, f10, f11⟩ := FCT.out w4 (FW.out w4 (Below.refl _ _))
  obtain ⟨w5, hw5⟩ : ∃ W : World, W = w4.alloc (.cells #[.int .i64 0] 3) := ⟨_, rfl⟩
  have hb5 : Below w4.heap.size w4 w5 := by rw [hw5]; exact (Below.refl _ _).alloc (Nat.le_refl _) _
  have KS : H.Keep (Calls Tryd.prog 26 #[.agg #[.int .i64 3, .slice A9 1 c9, .bool false], .agg #[.int .i64 3, .slice (some ⟨w4.heap.size, 0, none⟩) 1 1, .bool false]] w5 fun e w' => e = .returned (.bool true) ∧ Below w5.heap.size w5 w') := ⟨by
    obtain ⟨k, hk⟩ := sums_same
    have ho : H.OwnI w5 0 (.slice (some ⟨w4.heap.size, 0, none⟩) 1 1) [0] := ⟨rfl, .inr ⟨_, 1, _, rfl, Nat.zero_le _, by rw [hw5]; exact H.Blk.new w4 3 #[.int .i64 0], Nat.le_refl _, by decide, rfl, rfl⟩⟩
    obtain ⟨A', c', e', _, _, hr, _⟩ := ho.open_
    injection e' with e1 _ _
    subst e1
    exact rootstocklaw17_SameAction.calls k 3 A9 c9 [0] false 3 (some ⟨w4.heap.size, 0, none⟩) 1 [0] false true w5 (Kd.C_below HC9.out (FW.out w5 hb5)) HL9.out (rdI_to hr (by decide)) (by decide) hk⟩
  have HW5 := H.Keep.mk hw5
  have BL5 := H.Keep.mk hb5
  clear hw5 hb5
  dsimp only
  go_wp2_with fail
  rw [← HW5.out]
  refine KS.out.mono ?_
  rintro e w6 ⟨rfl, hb⟩
  have hb6 : Below w4.heap.size w4 w6 := H.below_step BL5.out hb BL5.out.size
  have FIN : H.Keep (Below w.heap.size w w6) := ⟨H.below_step B4.out hb6 B4.out.size⟩
  clear d4 d5 q0 q1 f1 f2 f3 f4 f5 f6 f7 f8 f9 f10 f11
  obtain ⟨d4, d5, q0, q1⟩ := F4.out w6 hb6
  obtain ⟨f1, f2, f3, f4, f5, f6, f7, f8, f9, f10, f11⟩ := FCT.out w6 (FW.out w6 hb6)
  clear hb hb6 KS F4 FCT FW HW5
  dsimp only
  go_wp2_with fail
  go_ret
  exact ⟨rfl, FIN.out⟩
end Go.Proofs.YtaooejidkeojjaaDoor.PLi
namespace Go.Proofs.YtaooejidkeojjaaDoor.H
open Go.RowKit
set_option linter.unusedVariables false
set_option linter.unusedSimpArgs false
structure TabIn (w : World) (A G : Option Addr) (al : List (List Ac)) (gl : List (List Int)) : Prop where
  a : ∀ s (hs : s < al.length), ∃ (ad : Addr) (Ar : Option Addr) (cr : Nat), A = some ad ∧ ad.block < w.heap.size ∧ w.cell? (ad.add s) = some (.slice Ar al[s].length cr) ∧ al[s].length ≤ cr ∧
    ∀ a (ha : a < al[s].length), ∃ (ar : Addr) (Ai : Option Addr) (ci : Nat), Ar = some ar ∧ ar.block < w.heap.size ∧ w.cell? (ar.add (a * 3)) = some (.int .i64 al[s][a].sh) ∧ w.cell? ⟨(ar.add (a * 3)).block, (ar.add (a * 3)).off + 1, none⟩ = some (.slice Ai al[s][a].rd.length ci) ∧
      w.cell? ⟨(ar.add (a * 3)).block, (ar.add (a * 3)).off + 2, none⟩ = some (.bool al[s][a].ac) ∧ al[s][a].rd.length ≤ ci ∧ Rd eI 1 w w.heap.size Ai al[s][a].rd
  g : ∀ s (hs : s < gl.length), ∃ (ad : Addr) (Ar : Option Addr) (cr : Nat), G = some ad ∧ ad.block < w.heap.size ∧ w.cell? (ad.add s) = some (.slice Ar gl[s].length cr) ∧ gl[s].length ≤ cr ∧ Rd eI 1 w w.heap.size Ar gl[s]
structure WholeH (T S : Int) (np : Nat) (al : List (List Ac)) (gl : List (List Int)) : Prop where
  t0 : 0 ≤ T
  t1 : T ≤ 1000
  s0 : 0 ≤ S
  s1 : S ≤ 1000
  npl : np ≤ 1000
  n0 : 0 < al.length
  n1 : al.length ≤ 1000
  eq : gl.length = al.length
  la : ∀ s (hs : s < al.length), (al[s].length : Int) = T + 1
  lg : ∀ s (hs : s < gl.length), (gl[s].length : Int) = S
  g : ∀ s (hs : s < gl.length) y (hy : y < gl[s].length), -1 ≤ gl[s][y] ∧ gl[s][y] < al.length
  ts : T ≤ S
  ac : ∀ s (hs : s < al.length) a (ha : a < al[s].length), al[s][a].ac = true → (a : Int) = T
  sh : ∀ s (hs : s < al.length) a (ha : a < al[s].length) (hg : s < gl.length) (hy : a < gl[s].length), (a : Int) < T → al[s][a].sh = gl[s][a]
  se : ∀ s (hs : s < al.length) a (ha : a < al[s].length), (a : Int) = T → al[s][a].sh = -1
  rl : ∀ s (hs : s < al.length) a (ha : a < al[s].length), al[s][a].rd.length ≤ 1000
  rd : ∀ s (hs : s < al.length) a (ha : a < al[s].length) i (hi : i < al[s][a].rd.length), 0 ≤ al[s][a].rd[i] ∧ al[s][a].rd[i] < np ∧ (0 < i → al[s][a].rd.getD (i - 1) 0 < al[s][a].rd[i])
structure WhW (w wr : World) (ct cg : Array Value) : Prop where
  bw : Below w.heap.size w wr
  bt : Blk wr w.heap.size 30 ct
  bg : Blk wr (w.heap.size + 1) 24 cg
theorem WhW.drewN {w wr : World} {ct cg : Array Value} (h : WhW w wr ct cg) (n : Nat) : WhW w (wr.drewN n) ct cg := ⟨below_drewN h.bw n, h.bt.drewN n, h.bg.drewN n⟩
theorem WhW.alloc {w wr : World} {ct cg : Array Value} (h : WhW w wr ct cg) (o : Obj) : WhW w (wr.alloc o) ct cg := ⟨h.bw.alloc h.bw.size o, h.bt.alloc o, h.bg.alloc o⟩
set_option maxRecDepth 100000 in
set_option maxHeartbeats 8000000 in
theorem whole_any (T S st : Int) (P A G : Option Addr) (np cp ca cg : Nat) (al : List (List Ac)) (gl : List (List Int)) (w : World) (hw : TabIn w A G al gl) (h : WholeH T S np al gl) :
    Calls Tryd.prog 17 #[.agg #[.int .i64 T, .int .i64 S, .int .i64 st, .slice P np cp, .slice A al.length ca, .slice G gl.length cg]] w fun e w' => e = .returned (.bool true) ∧ Below w.heap.size w w' := by
  have W0 := Keep.mk hw
  have H0 := Keep.mk h
  have n0 := h.n0
  have n1 := h.n1
  have eq := h.eq
  have t0 := h.t0
  have t1 := h.t1
  have s0 := h.s0
  have s1 := h.s1
  clear h hw
  obtain ⟨t, rfl⟩ := Int.eq_ofNat_of_zero_le t0
  obtain ⟨sy, rfl⟩ := Int.eq_ofNat_of_zero_le s0
  rw [eq]
  have u1 : ((al.length : Int) == 0) = false := beq_eq_false_iff_ne.2 (by omega)
  have u2 : ((al.length : Int) != al.length) = false := by simp
  have HN : Keep (gl.length = al.length) := ⟨eq⟩
  clear eq
  go_enter Tryd.func17, Tryd.ntmps17
  obtain ⟨ct, hct⟩ : ∃ ct : Array Value, ct = #[.int .i64 t, .int .i64 sy, .int .i64 st, .slice P np cp, .slice A al.length ca, .slice G al.length cg] := ⟨_, rfl⟩
  obtain ⟨cgr, hcg⟩ : ∃ ct : Array Value, ct = #[.int .i64 t, .int .i64 sy, .int .i64 st, .slice P np cp] := ⟨_, rfl⟩
  have U0 : Keep (WhW w ((w.alloc (.cells ct 30)).alloc (.cells cgr 24)) ct cgr) := ⟨((Below.refl _ _).alloc (Nat.le_refl _) _).alloc (by simp) _, (Blk.new _ _ _).alloc _, Blk.newAt (by simp)⟩
  go_wp2
  go_loopg [5] al.length (fun gg s5 wr => ∃ s : Nat, s ≤ al.length ∧ al.length - s ≤ gg ∧ s5 = .int .i64 s ∧ Keep (WhW w wr ct cgr))
  case atStart =>
    refine ⟨0, Nat.zero_le _, by omega, rfl, ?_⟩
    rw [← hct, ← hcg]
    exact U0
  case round =>
  clear U0
  obtain ⟨s, hs, hg, rfl, U⟩ := hrel
  by_cases hlt : s < al.length
  rotate_left
  · have es : s = al.length := by omega
    subst es
    go_wp2
    go_ret
    exact ⟨rfl, U.out.bw⟩
  have hlt2 : s < gl.length := by have := HN.out; omega
  obtain ⟨ad, Ar, cr, rfl, b1, c1, lc1, hrow⟩ := W0.out.a s hlt
  obtain ⟨gd, Gr, gr, rfl, b2, c2, lc2, hled⟩ := W0.out.g s hlt2
  have la := H0.out.la s hlt
  have lg := H0.out.lg s hlt2
  have C1 := Keep.mk c1
  have C2 := Keep.mk c2
  have B1 := Keep.mk b1
  have B2 := Keep.mk b2
  have HR := Keep.mk hrow
  have HL := Keep.mk hled
  have HA := Keep.mk (H0.out.ac s hlt)
  have HS := Keep.mk (fun a ha => H0.out.sh s hlt a ha hlt2)
  have HE := Keep.mk (H0.out.se s hlt)
  have HRL := Keep.mk (H0.out.rl s hlt)
  have HRD := Keep.mk (H0.out.rd s hlt)
  have HG := Keep.mk (H0.out.g s hlt2)
  have HTS := H0.out.ts
  have HNP := H0.out.npl
  clear c1 c2 b1 b2 hrow hled
  generalize hrw : al[s] = row at *
  generalize hld : gl[s] = led at *
  clear hrw hld
  have q1 := U.out.bt.cell 4
  have q2 := U.out.bt.cell 5
  have q3 := U.out.bg.cell 0
  have q4 := U.out.bg.cell 1
  simp [hct] at q1 q2
  simp [hcg] at q3 q4
  have d1 := cell_below C1.out U.out.bw (by rw [add_block]; exact B1.out)
  have d2 := cell_below C2.out U.out.bw (by rw [add_block]; exact B2.out)
  have i0 : (0:Int) ≤ s := by omega
  have i1 : (s : Int) < al.length := by omega
  have v1 : IntKind.i64.wrap ((t : Int) + 1) = (t : Int) + 1 := by rw [IntKind.wrap_i64]; omega
  have v2 : ((row.length : Int) != (t : Int) + 1) = false := bne_eq_false_iff_eq.2 la
  have v3 : ((led.length : Int) != sy) = false := bne_eq_false_iff_eq.2 lg
  go_upto_region 8 with fail
  go_wp2
  go_quiet (fail)
  have U2 := Keep.mk (U.out.drewN nq)
  clear U q1 q2 q3 q4 d1 d2 v1 v2 v3
  go_wp2
  go_loopg [6] sy (fun gg s6 wr => ∃ y : Nat, y ≤ sy ∧ sy - y ≤ gg ∧ s6 = .int .i64 y ∧ Keep (WhW w wr ct cgr))
  case atStart => exact ⟨0, Nat.zero_le _, by omega, rfl, U2⟩
  case round =>
  clear U2
  obtain ⟨y, hy, hg2, rfl, U⟩ := hrel
  have q2 := U.out.bt.cell 5
  have q4 := U.out.bg.cell 1
  simp [hct] at q2
  simp [hcg] at q4
  by_cases hlty : y < sy
  · have hyl : y < led.length := by omega
    obtain ⟨la2, rfl, b3, c3⟩ := HL.out.int y hyl
    obtain ⟨g1, g2⟩ := HG.out y hyl
    replace c3 := cell_below c3 U.out.bw (by rw [add_block]; exact b3)
    have d2 := cell_below C2.out U.out.bw (by rw [add_block]; exact B2.out)
    generalize led[y] = v at *
    have j0 : (0:Int) ≤ y := by omega
    have j1 : (y : Int) < led.length := by omega
    have j2 : (y : Int) < sy := by omega
    have v5 : ¬ v < -1 := by omega
    have v6 : ¬ v ≥ (al.length : Int) := by omega
    go_wp2
    go_roundg (sy - (y + 1))
    case measure => omega
    case rel => exact ⟨y + 1, by omega, by omega, by go_num, U⟩
  have ey : y = sy := by omega
  subst ey
  go_wp2
  clear q2 q4
  go_loopg [7] (t + 1) (fun gg s7 wr => ∃ a : Nat, a ≤ t + 1 ∧ t + 1 - a ≤ gg ∧ s7 = .int .i64 a ∧ Keep (WhW w wr ct cgr))
  case atStart => exact ⟨0, Nat.zero_le _, by omega, rfl, U⟩
  case round =>
  clear U
  obtain ⟨a, ha, hg3, rfl, U⟩ := hrel
  have q1 := U.out.bt.cell 4
  have q2 := U.out.bt.cell 5
  have q3 := U.out.bg.cell 0
  simp [hct] at q1 q2
  simp [hcg] at q3
  by_cases hlta : a ≤ t
  rotate_left
  · go_wp2
    go_roundg (al.length - (s + 1))
    case measure => omega
    case rel => exact ⟨s + 1, by omega, by omega, by go_num, U⟩
  have har : a < row.length := by omega
  obtain ⟨ar, Ai, ci, rfl, b4, c4, c5, c6, lci, hri⟩ := HR.out a har
  have k1 := HA.out a har
  have k3 := HE.out a har
  have k4 := HRL.out a har
  have k5 := Keep.mk (HRD.out a har)
  have k2 := Keep.mk (HS.out a har)
  generalize hx : row[a] = x at *
  clear hx
  obtain ⟨xs, xr, xa⟩ := x
  dsimp only at *
  have d1 := cell_below C1.out U.out.bw (by rw [add_block]; exact B1.out)
  replace c4 := cell_below c4 U.out.bw (by rw [add_block]; exact b4)
  replace c5 := cell_below c5 U.out.bw (by show (ar.add _).block < _; rw [add_block]; exact b4)
  replace c6 := cell_below c6 U.out.bw (by show (ar.add _).block < _; rw [add_block]; exact b4)
  have j0 : (0:Int) ≤ a := by omega
  have j1 : (a : Int) < row.length := by omega
  have j2 : (a : Int) ≤ t := by omega
  go_upto_region 19 with fail
  have X := Keep.mk (Blk.new wr 46 #[.int .i64 xs, .slice Ai xr.length ci, .bool xa])
  have U2 := Keep.mk (U.out.alloc (.cells #[.int .i64 xs, .slice Ai xr.length ci, .bool xa] 46))
  have nx : w.heap.size ≤ wr.heap.size := U.out.bw.size
  clear U q1 q2 q3 d1 c4 c5 c6
  generalize (wr.alloc (.cells #[.int .i64 xs, .slice Ai xr.length ci, .bool xa] 46)) = wx at X U2 ⊢
  generalize wr.heap.size = gx at *
  have q2 := U2.out.bt.cell 5
  have q3 := U2.out.bg.cell 0
  have x0 := X.out.cell 0
  have x1 := X.out.cell 1
  have x2 := X.out.cell 2
  simp [hct] at q2
  simp [hcg] at q3
  simp at x0 x1 x2
  have d2 := cell_below C2.out U2.out.bw (by rw [add_block]; exact B2.out)
  have C3 : (a : Int) < t → ∃ la2, Gr = some la2 ∧ wx.cell? (la2.add a) = some (.int .i64 xs) := fun ht => by
    have hal : a < led.length := by omega
    obtain ⟨la2, e, b3, c3⟩ := HL.out.int a hal
    rw [← k2.out hal ht] at c3
    exact ⟨la2, e, cell_below c3 U2.out.bw (by rw [add_block]; exact b3)⟩
  have KG : Keep (Rd eI 1 w w.heap.size Ai xr) := ⟨hri⟩
  clear hri HL nx C1 C2 HA HS HE HRL HRD HR HG k2
  have fin : (xs = -1 ∧ a = t) ∨ (xa = false ∧ (a : Int) < t ∧ ((a : Int) == t) = false) := by
    by_cases hat : a = t
    · exact .inl ⟨k3 (by omega), hat⟩
    · right
      refine ⟨?_, by omega, beq_eq_false_iff_ne.2 (by omega)⟩
      cases xa with
      | true => exact absurd (k1 rfl) (by omega)
      | false => rfl
  clear k1 k3
  rcases fin with ⟨rfl, hat⟩ | ⟨rfl, e1, e2⟩
  · have e4 : ((-1 : Int) != -1) = false := by decide
    clear C3
    subst hat
    have e1 : ¬ (a : Int) < a := by omega
    have e2 : ((a : Int) == a) = true := beq_self_eq_true _
    cases xa
    all_goals
      go_wp2
      go_quiet (fail)
    all_goals
      have U := Keep.mk (U2.out.drewN nq)
      have Y := Keep.mk (X.out.drewN nq)
      clear U2 X q2 q3 x0 x1 x2 d2
      go_wp2
    · go_loopg [9] xr.length (fun gg s9 wr => ∃ i : Nat, i ≤ xr.length ∧ xr.length - i ≤ gg ∧ s9 = .int .i64 i ∧ Keep (WhW w wr ct cgr) ∧ Keep (Blk wr gx 46 #[.int .i64 (-1), .slice Ai xr.length ci, .bool false]))
      case atStart => exact ⟨0, Nat.zero_le _, by omega, rfl, U, Y⟩
      case round =>
      clear U Y
      obtain ⟨i, hi, hg4, rfl, U, Y⟩ := hrel
      have x1 := Y.out.cell 1
      have q3 := U.out.bg.cell 3
      simp at x1
      simp [hcg] at q3
      by_cases hlti : i < xr.length
      rotate_left
      · go_wp2
        go_roundg (a + 1 - (a + 1))
        case measure => omega
        case rel => exact ⟨a + 1, by omega, by omega, by go_num, U⟩
      obtain ⟨a3, rfl, b7, c7⟩ := KG.out.int i hlti
      obtain ⟨g3, g4, g5⟩ := k5.out i hlti
      replace c7 := cell_below c7 U.out.bw (by rw [add_block]; exact b7)
      generalize hv : xr[i] = v at *
      clear hv
      have f0 : (0:Int) ≤ i := by omega
      have f1 : (i : Int) < xr.length := by omega
      have f2 : (0:Int) ≤ v := g3
      have f3 : v < (np : Int) := g4
      have d0 : decide (v < 0) = false := decide_eq_false (by omega)
      have d3 : decide ((np : Int) ≤ v) = false := decide_eq_false (by omega)
      by_cases hi0 : i = 0
      · subst hi0
        have e0 : a3.add 0 = a3 := by simp [Addr.add]
        rw [e0] at c7
        have f9 : 0 < xr.length := hlti
        clear e0
        clear g5
        go_wp2
        go_quiet (fail)
        have U2 := Keep.mk (U.out.drewN nq)
        have Y2 := Keep.mk (Y.out.drewN nq)
        clear U Y x1 q3 c7
        go_wp2
        go_roundg (xr.length - (0 + 1))
        case measure => omega
        case rel => exact ⟨0 + 1, by omega, by omega, by go_num, U2, Y2⟩
      · obtain ⟨j, hj⟩ : ∃ j, i = j + 1 := ⟨i - 1, by omega⟩
        have hjl : j < xr.length := by omega
        obtain ⟨a4, ea, b8, c8⟩ := KG.out.int j hjl
        obtain rfl := Option.some.inj ea
        replace c8 := cell_below c8 U.out.bw (by rw [add_block]; exact b8)
        have f4 : xr[j] < v := by
          have h5 := g5 (by omega)
          have e9 : i - 1 = j := by omega
          rw [e9, List.getD_eq_getElem?_getD, List.getElem?_eq_getElem hjl] at h5
          exact h5
        generalize xr[j] = u at *
        have f5 : IntKind.i64.wrap ((i : Int) - 1) = (j : Int) := by rw [IntKind.wrap_i64]; omega
        have f6 : decide (0 < i) = true := decide_eq_true (by omega)
        have d4 : decide (v ≤ u) = false := decide_eq_false (by omega)
        have f7 : (0:Int) ≤ j := by omega
        have f8 : (j : Int) < xr.length := by omega
        clear g5 ea hj hi0
        go_wp2
        go_quiet (fail)
        have U2 := Keep.mk (U.out.drewN nq)
        have Y2 := Keep.mk (Y.out.drewN nq)
        clear U Y x1 q3 c7 c8
        go_wp2
        go_roundg (xr.length - (i + 1))
        case measure => omega
        case rel => exact ⟨i + 1, by omega, by omega, by go_num, U2, Y2⟩
    · go_loopg [9] xr.length (fun gg s9 wr => ∃ i : Nat, i ≤ xr.length ∧ xr.length - i ≤ gg ∧ s9 = .int .i64 i ∧ Keep (WhW w wr ct cgr) ∧ Keep (Blk wr gx 46 #[.int .i64 (-1), .slice Ai xr.length ci, .bool true]))
      case atStart => exact ⟨0, Nat.zero_le _, by omega, rfl, U, Y⟩
      case round =>
      clear U Y
      obtain ⟨i, hi, hg4, rfl, U, Y⟩ := hrel
      have x1 := Y.out.cell 1
      have q3 := U.out.bg.cell 3
      simp at x1
      simp [hcg] at q3
      by_cases hlti : i < xr.length
      rotate_left
      · go_wp2
        go_roundg (a + 1 - (a + 1))
        case measure => omega
        case rel => exact ⟨a + 1, by omega, by omega, by go_num, U⟩
      obtain ⟨a3, rfl, b7, c7⟩ := KG.out.int i hlti
      obtain ⟨g3, g4, g5⟩ := k5.out i hlti
      replace c7 := cell_below c7 U.out.bw (by rw [add_block]; exact b7)
      generalize hv : xr[i] = v at *
      clear hv
      have f0 : (0:Int) ≤ i := by omega
      have f1 : (i : Int) < xr.length := by omega
      have f2 : (0:Int) ≤ v := g3
      have f3 : v < (np : Int) := g4
      have d0 : decide (v < 0) = false := decide_eq_false (by omega)
      have d3 : decide ((np : Int) ≤ v) = false := decide_eq_false (by omega)
      by_cases hi0 : i = 0
      · subst hi0
        have e0 : a3.add 0 = a3 := by simp [Addr.add]
        rw [e0] at c7
        have f9 : 0 < xr.length := hlti
        clear e0
        clear g5
        go_wp2
        go_quiet (fail)
        have U2 := Keep.mk (U.out.drewN nq)
        have Y2 := Keep.mk (Y.out.drewN nq)
        clear U Y x1 q3 c7
        go_wp2
        go_roundg (xr.length - (0 + 1))
        case measure => omega
        case rel => exact ⟨0 + 1, by omega, by omega, by go_num, U2, Y2⟩
      · obtain ⟨j, hj⟩ : ∃ j, i = j + 1 := ⟨i - 1, by omega⟩
        have hjl : j < xr.length := by omega
        obtain ⟨a4, ea, b8, c8⟩ := KG.out.int j hjl
        obtain rfl := Option.some.inj ea
        replace c8 := cell_below c8 U.out.bw (by rw [add_block]; exact b8)
        have f4 : xr[j] < v := by
          have h5 := g5 (by omega)
          have e9 : i - 1 = j := by omega
          rw [e9, List.getD_eq_getElem?_getD, List.getElem?_eq_getElem hjl] at h5
          exact h5
        generalize xr[j] = u at *
        have f5 : IntKind.i64.wrap ((i : Int) - 1) = (j : Int) := by rw [IntKind.wrap_i64]; omega
        have f6 : decide (0 < i) = true := decide_eq_true (by omega)
        have d4 : decide (v ≤ u) = false := decide_eq_false (by omega)
        have f7 : (0:Int) ≤ j := by omega
        have f8 : (j : Int) < xr.length := by omega
        clear g5 ea hj hi0
        go_wp2
        go_quiet (fail)
        have U2 := Keep.mk (U.out.drewN nq)
        have Y2 := Keep.mk (Y.out.drewN nq)
        clear U Y x1 q3 c7 c8
        go_wp2
        go_roundg (xr.length - (i + 1))
        case measure => omega
        case rel => exact ⟨i + 1, by omega, by omega, by go_num, U2, Y2⟩
  · have e4 : (xs != xs) = false := by simp
    obtain ⟨la2, rfl, c3⟩ := C3 e1
    have e5 : (a : Int) < led.length := by omega
    go_wp2
    go_quiet (fail)
    have U := Keep.mk (U2.out.drewN nq)
    have Y := Keep.mk (X.out.drewN nq)
    clear U2 X q2 q3 x0 x1 x2 d2 c3
    go_wp2
    go_loopg [9] xr.length (fun gg s9 wr => ∃ i : Nat, i ≤ xr.length ∧ xr.length - i ≤ gg ∧ s9 = .int .i64 i ∧ Keep (WhW w wr ct cgr) ∧ Keep (Blk wr gx 46 #[.int .i64 xs, .slice Ai xr.length ci, .bool false]))
    case atStart => exact ⟨0, Nat.zero_le _, by omega, rfl, U, Y⟩
    case round =>
    clear U Y
    obtain ⟨i, hi, hg4, rfl, U, Y⟩ := hrel
    have x1 := Y.out.cell 1
    have q3 := U.out.bg.cell 3
    simp at x1
    simp [hcg] at q3
    by_cases hlti : i < xr.length
    rotate_left
    · go_wp2
      go_roundg (t + 1 - (a + 1))
      case measure => omega
      case rel => exact ⟨a + 1, by omega, by omega, by go_num, U⟩
    obtain ⟨a3, rfl, b7, c7⟩ := KG.out.int i hlti
    obtain ⟨g3, g4, g5⟩ := k5.out i hlti
    replace c7 := cell_below c7 U.out.bw (by rw [add_block]; exact b7)
    generalize hv : xr[i] = v at *
    clear hv
    have f0 : (0:Int) ≤ i := by omega
    have f1 : (i : Int) < xr.length := by omega
    have f2 : (0:Int) ≤ v := g3
    have f3 : v < (np : Int) := g4
    have d0 : decide (v < 0) = false := decide_eq_false (by omega)
    have d3 : decide ((np : Int) ≤ v) = false := decide_eq_false (by omega)
    by_cases hi0 : i = 0
    · subst hi0
      have e0 : a3.add 0 = a3 := by simp [Addr.add]
      rw [e0] at c7
      have f9 : 0 < xr.length := hlti
      clear e0
      clear g5
      go_wp2
      go_quiet (fail)
      have U2 := Keep.mk (U.out.drewN nq)
      have Y2 := Keep.mk (Y.out.drewN nq)
      clear U Y x1 q3 c7
      go_wp2
      go_roundg (xr.length - (0 + 1))
      case measure => omega
      case rel => exact ⟨0 + 1, by omega, by omega, by go_num, U2, Y2⟩
    · obtain ⟨j, hj⟩ : ∃ j, i = j + 1 := ⟨i - 1, by omega⟩
      have hjl : j < xr.length := by omega
      obtain ⟨a4, ea, b8, c8⟩ := KG.out.int j hjl
      obtain rfl := Option.some.inj ea
      replace c8 := cell_below c8 U.out.bw (by rw [add_block]; exact b8)
      have f4 : xr[j] < v := by
        have h5 := g5 (by omega)
        have e9 : i - 1 = j := by omega
        rw [e9, List.getD_eq_getElem?_getD, List.getElem?_eq_getElem hjl] at h5
        exact h5
      generalize xr[j] = u at *
      have f5 : IntKind.i64.wrap ((i : Int) - 1) = (j : Int) := by rw [IntKind.wrap_i64]; omega
      have f6 : decide (0 < i) = true := decide_eq_true (by omega)
      have d4 : decide (v ≤ u) = false := decide_eq_false (by omega)
      have f7 : (0:Int) ≤ j := by omega
      have f8 : (j : Int) < xr.length := by omega
      clear g5 ea hj hi0
      go_wp2
      go_quiet (fail)
      have U2 := Keep.mk (U.out.drewN nq)
      have Y2 := Keep.mk (Y.out.drewN nq)
      clear U Y x1 q3 c7 c8
      go_wp2
      go_roundg (xr.length - (i + 1))
      case measure => omega
      case rel => exact ⟨i + 1, by omega, by omega, by go_num, U2, Y2⟩
end Go.Proofs.YtaooejidkeojjaaDoor.H
namespace Go.Proofs.YtaooejidkeojjaaDoor.PFw
open Go.RowKit Go.Proofs.YtaooejidkeojjaaDoorW.PrintWords Go.Proofs.YtaooejidkeojjaaDoorW.PrintLast Go.Proofs.YtaooejidkeojjaaDoorW.PrintMore
attribute [local go_sem] max2_int min2_int max_two min_two max_three min_three max_four min_four   -- for this text's walks alone
set_option linter.unusedVariables false
set_option linter.unusedSimpArgs false
structure S49 where
  f0 : Int
  f1 : (List Int)
  f2 : Bool
def z49 : S49 := ⟨(0 : Int), ([] : List Int), false⟩
def k49 : Kd S49 := Kd.iso (Kd.pair (Kd.int .i64) (Kd.pair (Kd.slice 3 (Kd.int .i64)) Kd.bool)) (fun x : S49 => (x.f0, x.f1, x.f2))
theorem k49_open {w : World} {x : S49} {cs : List Value} (h : k49.K w x cs) : ∃ A1 c1, cs = [.int .i64 x.f0, .slice A1 x.f1.length c1, .bool x.f2] ∧ x.f1.length ≤ c1 ∧ (Kd.int .i64).C w A1 x.f1.length x.f1 := by
  obtain ⟨_, _, rfl, rfl, ⟨_, _, rfl, ⟨A1, c1, rfl, l1, g1⟩, rfl⟩⟩ := h
  exact ⟨A1, c1, rfl, l1, g1⟩
def rd_T49 (xs : List S49) (i : Int) : S49 := xs.getD i.toNat z49
theorem at_T49 {w : World} {A : Option Addr} {n : Nat} {xs : List S49} (h : Kd.C k49 w A n xs) (i : Int) (h0 : 0 ≤ i) (h1 : i < n) : ∃ ad A1 c1, A = some ad ∧ w.cell? (ad.add (i.toNat * 3)) = some (.int .i64 (rd_T49 xs i).f0) ∧ w.cell? ⟨(ad.add (i.toNat * 3)).block, (ad.add (i.toNat * 3)).off + 1, none⟩ = some (.slice A1 (rd_T49 xs i).f1.length c1) ∧ w.cell? ⟨(ad.add (i.toNat * 3)).block, (ad.add (i.toNat * 3)).off + 2, none⟩ = some (.bool (rd_T49 xs i).f2) ∧ (rd_T49 xs i).f1.length ≤ c1 ∧ (Kd.int .i64).C w A1 (rd_T49 xs i).f1.length (rd_T49 xs i).f1 := by
  obtain ⟨ad, c, e, _, hK, hc0⟩ := Kd.C_get h z49 i h0 h1
  have hc : ∀ j u, c[j]? = some u → w.cell? (ad.add (i.toNat * 3 + j)) = some u := hc0
  obtain ⟨A1, c1, rfl, l1, g1⟩ := k49_open hK
  exact ⟨ad, A1, c1, e, hc 0 _ rfl, by rw [← add_field _ _ 1 (by omega)]; exact hc 1 _ rfl, by rw [← add_field _ _ 2 (by omega)]; exact hc 2 _ rfl, l1, g1⟩
structure S24 where
  f0 : Int
  f1 : Int
  f2 : Int
  f3 : (List S49)
def k24 : Kd S24 := Kd.iso (Kd.pair (Kd.int .i64) (Kd.pair (Kd.int .i64) (Kd.pair (Kd.int .i64) (Kd.slice 49 k49)))) (fun x : S24 => (x.f0, x.f1, x.f2, x.f3))
theorem k24_open {w : World} {x : S24} {cs : List Value} (h : k24.K w x cs) : ∃ A3 c3, cs = [.int .i64 x.f0, .int .i64 x.f1, .int .i64 x.f2, .slice A3 x.f3.length c3] ∧ x.f3.length ≤ c3 ∧ k49.C w A3 x.f3.length x.f3 := by
  obtain ⟨_, _, rfl, rfl, ⟨_, _, rfl, rfl, ⟨_, _, rfl, rfl, ⟨A3, c3, rfl, l3, g3⟩⟩⟩⟩ := h
  exact ⟨A3, c3, rfl, l3, g3⟩
structure S46 where
  f0 : Int
  f1 : (List Int)
  f2 : Bool
def z46 : S46 := ⟨(0 : Int), ([] : List Int), false⟩
def k46 : Kd S46 := Kd.iso (Kd.pair (Kd.int .i64) (Kd.pair (Kd.slice 3 (Kd.int .i64)) Kd.bool)) (fun x : S46 => (x.f0, x.f1, x.f2))
theorem k46_open {w : World} {x : S46} {cs : List Value} (h : k46.K w x cs) : ∃ A1 c1, cs = [.int .i64 x.f0, .slice A1 x.f1.length c1, .bool x.f2] ∧ x.f1.length ≤ c1 ∧ (Kd.int .i64).C w A1 x.f1.length x.f1 := by
  obtain ⟨_, _, rfl, rfl, ⟨_, _, rfl, ⟨A1, c1, rfl, l1, g1⟩, rfl⟩⟩ := h
  exact ⟨A1, c1, rfl, l1, g1⟩
def rd_T46 (xs : List S46) (i : Int) : S46 := xs.getD i.toNat z46
theorem at_T46 {w : World} {A : Option Addr} {n : Nat} {xs : List S46} (h : Kd.C k46 w A n xs) (i : Int) (h0 : 0 ≤ i) (h1 : i < n) : ∃ ad A1 c1, A = some ad ∧ w.cell? (ad.add (i.toNat * 3)) = some (.int .i64 (rd_T46 xs i).f0) ∧ w.cell? ⟨(ad.add (i.toNat * 3)).block, (ad.add (i.toNat * 3)).off + 1, none⟩ = some (.slice A1 (rd_T46 xs i).f1.length c1) ∧ w.cell? ⟨(ad.add (i.toNat * 3)).block, (ad.add (i.toNat * 3)).off + 2, none⟩ = some (.bool (rd_T46 xs i).f2) ∧ (rd_T46 xs i).f1.length ≤ c1 ∧ (Kd.int .i64).C w A1 (rd_T46 xs i).f1.length (rd_T46 xs i).f1 := by
  obtain ⟨ad, c, e, _, hK, hc0⟩ := Kd.C_get h z46 i h0 h1
  have hc : ∀ j u, c[j]? = some u → w.cell? (ad.add (i.toNat * 3 + j)) = some u := hc0
  obtain ⟨A1, c1, rfl, l1, g1⟩ := k46_open hK
  exact ⟨ad, A1, c1, e, hc 0 _ rfl, by rw [← add_field _ _ 1 (by omega)]; exact hc 1 _ rfl, by rw [← add_field _ _ 2 (by omega)]; exact hc 2 _ rfl, l1, g1⟩
structure S52 where
  f0 : Int
  f1 : Int
  f2 : (List S52)
def z52 : S52 := ⟨(0 : Int), (0 : Int), ([] : List S52)⟩
def F52 (d : Kd S52) : Kd S52 := Kd.iso (Kd.pair (Kd.int .i64) (Kd.pair (Kd.int .i64) (Kd.slice 52 d))) (fun x : S52 => (x.f0, x.f1, x.f2))
theorem mono52 : Kd.Mono F52 := Kd.mono_iso _ (Kd.mono_pair (Kd.mono_const _) (Kd.mono_pair (Kd.mono_const _) (Kd.mono_slice 52 Kd.mono_id)))
theorem sub52 : Kd.Sub F52 [52] := Kd.sub_iso _ (Kd.sub_pair (Kd.sub_const _ (by decide)) (Kd.sub_pair (Kd.sub_const _ (by decide)) (Kd.sub_slice 52 (by decide) Kd.sub_id)))
theorem sz52 : ∀ n, (Kd.upto F52 3 [52] n).sz = 3 := Kd.upto_sz (fun _ => rfl)
def k52 : Kd S52 := Kd.fix F52 3 [52] sz52 (Kd.upto_E sub52)
theorem k52_open {w : World} {x : S52} {cs : List Value} (h : k52.K w x cs) : ∃ A2 c2, cs = [.int .i64 x.f0, .int .i64 x.f1, .slice A2 x.f2.length c2] ∧ x.f2.length ≤ c2 ∧ k52.C w A2 x.f2.length x.f2 := by
  obtain ⟨n, h⟩ := h
  cases n with
  | zero => exact h.elim
  | succ n =>
    obtain ⟨_, _, rfl, rfl, ⟨_, _, rfl, rfl, ⟨A2, c2, rfl, l2, g2⟩⟩⟩ := h
    exact ⟨A2, c2, rfl, l2, Kd.fix_C g2⟩
theorem k52_mk (w : World) (x : S52) {A2 : Option Addr} {c2 : Nat} (l2 : x.f2.length ≤ c2) (g2 : k52.C w A2 x.f2.length x.f2) : k52.K w x [.int .i64 x.f0, .int .i64 x.f1, .slice A2 x.f2.length c2] := by
  obtain ⟨n2, q2⟩ := Kd.fix_C_back mono52 g2
  have r2 := Kd.upto_C_le mono52 sz52 (show n2 ≤ n2 by omega) q2
  exact ⟨n2 + 1, ⟨[.int .i64 x.f0], [.int .i64 x.f1, .slice A2 x.f2.length c2], rfl, rfl, ⟨[.int .i64 x.f1], [.slice A2 x.f2.length c2], rfl, rfl, ⟨A2, c2, rfl, l2, r2⟩⟩⟩⟩
def rd_T52 (xs : List S52) (i : Int) : S52 := xs.getD i.toNat z52
theorem at_T52 {w : World} {A : Option Addr} {n : Nat} {xs : List S52} (h : Kd.C k52 w A n xs) (i : Int) (h0 : 0 ≤ i) (h1 : i < n) : ∃ ad A2 c2, A = some ad ∧ w.cell? (ad.add (i.toNat * 3)) = some (.int .i64 (rd_T52 xs i).f0) ∧ w.cell? ⟨(ad.add (i.toNat * 3)).block, (ad.add (i.toNat * 3)).off + 1, none⟩ = some (.int .i64 (rd_T52 xs i).f1) ∧ w.cell? ⟨(ad.add (i.toNat * 3)).block, (ad.add (i.toNat * 3)).off + 2, none⟩ = some (.slice A2 (rd_T52 xs i).f2.length c2) ∧ (rd_T52 xs i).f2.length ≤ c2 ∧ k52.C w A2 (rd_T52 xs i).f2.length (rd_T52 xs i).f2 := by
  obtain ⟨ad, c, e, _, hK, hc0⟩ := Kd.C_get h z52 i h0 h1
  have hc : ∀ j u, c[j]? = some u → w.cell? (ad.add (i.toNat * 3 + j)) = some u := hc0
  obtain ⟨A2, c2, rfl, l2, g2⟩ := k52_open hK
  exact ⟨ad, A2, c2, e, hc 0 _ rfl, by rw [← add_field _ _ 1 (by omega)]; exact hc 1 _ rfl, by rw [← add_field _ _ 2 (by omega)]; exact hc 2 _ rfl, l2, g2⟩
end Go.Proofs.YtaooejidkeojjaaDoor.PFw
namespace Go.Proofs.YtaooejidkeojjaaDoor.PFw
open Go.RowKit Go.Proofs.YtaooejidkeojjaaDoorW.PrintWords Go.Proofs.YtaooejidkeojjaaDoorW.PrintLast Go.Proofs.YtaooejidkeojjaaDoorW.PrintMore
attribute [local go_sem] max2_int min2_int max_two min_two max_three min_three max_four min_four   -- for this text's walks alone
set_option linter.unusedVariables false
set_option linter.unusedSimpArgs false
noncomputable def rootstocklaw14_Great.l0 : Nat → Int → Int → Int → Int → Int → List (S49) → Option (Bool)
  | 0, _, _, _, _, _, _ => none
  | k + 1, x3, x4, x102000, x102001, x102002, x102003 => if x4 < (x102003.length : Int) then (if 0 ≤ x4 then (if (((rd_T49 x102003 x4).f1).length : Int) > (wrap64 (2000 - x3)) then (some true) else (rootstocklaw14_Great.l0 k (wrap64 (x3 + (((rd_T49 x102003 x4).f1).length : Int))) (wrap64 (x4 + 1)) x102000 x102001 x102002 x102003)) else (none)) else (some false)
noncomputable def rootstocklaw14_Great.f (k : Nat) (a0_0 : Int) (a0_1 : Int) (a0_2 : Int) (l0_3 : List (S49)) : Option (Bool) := if (l0_3.length : Int) > 200 then (some true) else (rootstocklaw14_Great.l0 k 0 0 a0_0 a0_1 a0_2 l0_3)
set_option maxHeartbeats 8000000 in
set_option maxRecDepth 100000 in
theorem rootstocklaw14_Great.calls (k : Nat) (a0_0 : Int) (a0_1 : Int) (a0_2 : Int) (A0_3 : Option Addr) (c0_3 : Nat) (l0_3 : List (S49)) (r : Bool) (w : World) (hr0_3 : Kd.C k49 w A0_3 l0_3.length l0_3) (hc0_3 : l0_3.length ≤ c0_3) (h : rootstocklaw14_Great.f k a0_0 a0_1 a0_2 l0_3 = some r) :
    Calls Tryd.prog 24 #[.agg #[.int .i64 a0_0, .int .i64 a0_1, .int .i64 a0_2, .slice A0_3 l0_3.length c0_3]] w fun e w' => e = .returned (.bool r) ∧ Below w.heap.size w w' := by
 have hu24 := Tryd.underlying24
 have HR0_3 := Aside0.mk hr0_3
 have HC0_3 := Aside0.mk hc0_3
 clear hr0_3 hc0_3
 have HB := Aside0.mk (Below.refl w.heap.size w)
 have H : (if (l0_3.length : Int) > 200 then (some true) else (rootstocklaw14_Great.l0 k 0 0 a0_0 a0_1 a0_2 l0_3)) = some r := h
 clear h
 by_cases c2 : (l0_3.length : Int) > 200
 · rw [if_pos c2] at H
   have c2b0 : decide (200 < (l0_3.length : Int)) = true := decide_eq_true c2
   have c2b1 : decide (200 < l0_3.length) = true := decide_eq_true (by omega)
   clear c2
   as_aux_lemma =>
    obtain rfl := Option.some.inj H
    go_enter Tryd.func24, Tryd.ntmps24
    go_wp2_with (first | ((with_reducible refine gate_dst (N := 1) rfl ?_); refine box_event ?hg (N := 1) ?hd (cs := #[.int .i64 a0_0, .int .i64 a0_1, .int .i64 a0_2, .slice A0_3 l0_3.length c0_3]) (t := 24) ?hr ?_; (case hd => rfl); (case hg => rfl); (case hr => first | (go_simp; done) | (go_simp; rfl)); intro gb101 hg w3 hbox hb; have n0_ := Aside0.mk (below_step (by repeat (first | (with_reducible first | exact HB.out | apply below_alloc | apply pw_below_drewN | apply below_drew1) | exact HB.out)) hb); have n1_ := Aside0.mk (hbox); have n2_ := Aside0.mk ((by rw [hg]; exact (below_size (by repeat (first | (with_reducible first | exact HB.out | apply below_alloc | apply pw_below_drewN | apply below_drew1) | exact HB.out))) : w.heap.size ≤ gb101)); have n3_ := Aside0.mk ((by rw [hg]; exact (below_size (by repeat (first | (with_reducible first | exact HB.out | apply below_alloc | apply pw_below_drewN | apply below_drew1) | exact HB.out))) : w.heap.size ≤ gb101)); clear HB; have HB := n0_; have BK101 := n1_; have GW101 := n2_; have GE101 := n3_; clear n0_ n1_ n2_ n3_; clear hb hbox hg; have hcz4_0 : w3.cell? ⟨gb101, 0, none⟩ = some (.int .i64 a0_0) := (blk_cell BK101.out 0).trans rfl; have hcz4_1 : w3.cell? ⟨gb101, 1, none⟩ = some (.int .i64 a0_1) := (blk_cell BK101.out 1).trans rfl; have hcz4_2 : w3.cell? ⟨gb101, 2, none⟩ = some (.int .i64 a0_2) := (blk_cell BK101.out 2).trans rfl; have hcz4_3 : w3.cell? ⟨gb101, 3, none⟩ = some (.slice A0_3 l0_3.length c0_3) := (blk_cell BK101.out 3).trans rfl; have hfz4_0 := blk_frozen BK101.out 0; have hfz4_1 := blk_frozen BK101.out 1; have hfz4_2 := blk_frozen BK101.out 2; have hfz4_3 := blk_frozen BK101.out 3))
    go_ret
    exact ⟨by first | rfl | (simp [errW_none, errW_some] <;> rfl) | (simp [*, errW_none, errW_some] <;> rfl), by repeat (first | (with_reducible first | exact HB.out | apply below_alloc | apply pw_below_drewN | apply below_drew1 | refine below_set ?_ GE101.out) | exact HB.out)⟩
 rw [if_neg c2] at H
 have c2b0 : decide (200 < (l0_3.length : Int)) = false := decide_eq_false c2
 have c2b1 : decide (200 < l0_3.length) = false := decide_eq_false (by omega)
 clear c2
 have H' := Aside0.mk H
 clear H
 go_enter Tryd.func24, Tryd.ntmps24
 go_wp2_with (first | ((with_reducible refine gate_dst (N := 1) rfl ?_); refine box_event ?hg (N := 1) ?hd (cs := #[.int .i64 a0_0, .int .i64 a0_1, .int .i64 a0_2, .slice A0_3 l0_3.length c0_3]) (t := 24) ?hr ?_; (case hd => rfl); (case hg => rfl); (case hr => first | (go_simp; done) | (go_simp; rfl)); intro gb101 hg w5 hbox hb; have n0_ := Aside0.mk (below_step (by repeat (first | (with_reducible first | exact HB.out | apply below_alloc | apply pw_below_drewN | apply below_drew1) | exact HB.out)) hb); have n1_ := Aside0.mk (hbox); have n2_ := Aside0.mk ((by rw [hg]; exact (below_size (by repeat (first | (with_reducible first | exact HB.out | apply below_alloc | apply pw_below_drewN | apply below_drew1) | exact HB.out))) : w.heap.size ≤ gb101)); have n3_ := Aside0.mk ((by rw [hg]; exact (below_size (by repeat (first | (with_reducible first | exact HB.out | apply below_alloc | apply pw_below_drewN | apply below_drew1) | exact HB.out))) : w.heap.size ≤ gb101)); clear HB; have HB := n0_; have BK101 := n1_; have GW101 := n2_; have GE101 := n3_; clear n0_ n1_ n2_ n3_; clear hb hbox hg; have hcz6_0 : w5.cell? ⟨gb101, 0, none⟩ = some (.int .i64 a0_0) := (blk_cell BK101.out 0).trans rfl; have hcz6_1 : w5.cell? ⟨gb101, 1, none⟩ = some (.int .i64 a0_1) := (blk_cell BK101.out 1).trans rfl; have hcz6_2 : w5.cell? ⟨gb101, 2, none⟩ = some (.int .i64 a0_2) := (blk_cell BK101.out 2).trans rfl; have hcz6_3 : w5.cell? ⟨gb101, 3, none⟩ = some (.slice A0_3 l0_3.length c0_3) := (blk_cell BK101.out 3).trans rfl; have hfz6_0 := blk_frozen BK101.out 0; have hfz6_1 := blk_frozen BK101.out 1; have hfz6_2 := blk_frozen BK101.out 2; have hfz6_3 := blk_frozen BK101.out 3))
 go_loopg [3, 4] k (fun kq v3 v4 w' => ∃ (x3_1 : Int) (x4_1 : Int), v3 = .int .i64 x3_1 ∧ v4 = .int .i64 x4_1 ∧ Aside0 (rootstocklaw14_Great.l0 kq x3_1 x4_1 a0_0 a0_1 a0_2 l0_3 = some r) ∧ Aside0 (kq ≤ k) ∧ Aside0 (w'.heap[gb101]? = some (.cells #[.int .i64 a0_0, .int .i64 a0_1, .int .i64 a0_2, (.slice A0_3 l0_3.length c0_3)] 24 (0, 0))) ∧ Aside0 (Below w.heap.size w w'))
 case atStart => exact ⟨(0), (0), (by first | rfl | (simp; done) | (simp [*]; done)), (by first | rfl | (simp; done) | (simp [*]; done)), H', ⟨Nat.le_refl _⟩, ⟨by (with_reducible repeat (first | refine blk_drewN ?_ _ | refine blk_drew ?_ | refine blk_alloc ?_ _)); exact BK101.out⟩, ⟨by repeat (first | (with_reducible first | exact HB.out | apply below_alloc | apply pw_below_drewN | apply below_drew1 | refine below_set ?_ GE101.out) | exact HB.out)⟩⟩
 case round =>
  clear H'
  try clear c2
  try clear c2b0
  try clear c2b1
  try clear p2
  try clear hcz4_0
  try clear hcz4_1
  try clear hcz4_2
  try clear hcz4_3
  try clear hcz6_0
  try clear hcz6_1
  try clear hcz6_2
  try clear hcz6_3
  try clear hfz4_0
  try clear hfz4_1
  try clear hfz4_2
  try clear hfz4_3
  try clear hfz6_0
  try clear hfz6_1
  try clear hfz6_2
  try clear hfz6_3
  obtain ⟨x3_1, x4_1, rfl, rfl, HA, HK1, BK101, HB⟩ := hrel
  cases gk with
  | zero => exact absurd HA.out (by simp [rootstocklaw14_Great.l0])
  | succ k1 =>
   have H := HA.out
   clear HA
   simp only [rootstocklaw14_Great.l0] at H
   by_cases c7 : x4_1 < (l0_3.length : Int)
   rotate_left
   · rw [if_neg c7] at H
     have c7b0 : decide (x4_1 < (l0_3.length : Int)) = false := decide_eq_false c7
     clear c7
     as_aux_lemma =>
      obtain rfl := Option.some.inj H
      have hcz12_0 : wr.cell? ⟨gb101, 0, none⟩ = some (.int .i64 a0_0) := (blk_cell BK101.out 0).trans rfl
      have hcz12_1 : wr.cell? ⟨gb101, 1, none⟩ = some (.int .i64 a0_1) := (blk_cell BK101.out 1).trans rfl
      have hcz12_2 : wr.cell? ⟨gb101, 2, none⟩ = some (.int .i64 a0_2) := (blk_cell BK101.out 2).trans rfl
      have hcz12_3 : wr.cell? ⟨gb101, 3, none⟩ = some (.slice A0_3 l0_3.length c0_3) := (blk_cell BK101.out 3).trans rfl
      have hfz12_0 := blk_frozen BK101.out 0
      have hfz12_1 := blk_frozen BK101.out 1
      have hfz12_2 := blk_frozen BK101.out 2
      have hfz12_3 := blk_frozen BK101.out 3
      go_wp2
      go_ret
      exact ⟨by first | rfl | (simp [errW_none, errW_some] <;> rfl) | (simp [*, errW_none, errW_some] <;> rfl), by repeat (first | (with_reducible first | exact HB.out | apply below_alloc | apply pw_below_drewN | apply below_drew1 | refine below_set ?_ GE101.out) | exact HB.out)⟩
   rw [if_pos c7] at H
   have c7b0 : decide (x4_1 < (l0_3.length : Int)) = true := decide_eq_true c7
   clear c7
   by_cases c8 : 0 ≤ x4_1
   rotate_left
   · rw [if_neg c8] at H
     exact absurd H (by simp)
   rw [if_pos c8] at H
   have c8b0 : decide (0 ≤ x4_1) = true := decide_eq_true c8
   clear c8
   by_cases c9 : (((rd_T49 l0_3 x4_1).f1).length : Int) > (wrap64 (2000 - x3_1))
   · rw [if_pos c9] at H
     have c9b0 : decide ((wrap64 (2000 - x3_1)) < (((rd_T49 l0_3 x4_1).f1).length : Int)) = true := decide_eq_true c9
     clear c9
     as_aux_lemma =>
      obtain rfl := Option.some.inj H
      have hcz10_0 : wr.cell? ⟨gb101, 0, none⟩ = some (.int .i64 a0_0) := (blk_cell BK101.out 0).trans rfl
      have hcz10_1 : wr.cell? ⟨gb101, 1, none⟩ = some (.int .i64 a0_1) := (blk_cell BK101.out 1).trans rfl
      have hcz10_2 : wr.cell? ⟨gb101, 2, none⟩ = some (.int .i64 a0_2) := (blk_cell BK101.out 2).trans rfl
      have hcz10_3 : wr.cell? ⟨gb101, 3, none⟩ = some (.slice A0_3 l0_3.length c0_3) := (blk_cell BK101.out 3).trans rfl
      have hfz10_0 := blk_frozen BK101.out 0
      have hfz10_1 := blk_frozen BK101.out 1
      have hfz10_2 := blk_frozen BK101.out 2
      have hfz10_3 := blk_frozen BK101.out 3
      have p102 : 0 ≤ (x4_1 : Int) := of_decide_eq_true (by first | (with_reducible assumption) | assumption)
      have q102 : x4_1 < (l0_3.length : Int) := of_decide_eq_true (by first | (with_reducible assumption) | assumption)
      obtain ⟨ad102, A102_1, c102_1, e102, hx102_0, hx102_1, hx102_2, hl102_1, hi102_1⟩ := at_T49 HR0_3.out x4_1 p102 q102
      cases e102
      replace hx102_0 := (HB.out.cell (World.block_lt_of_cell? w _ hx102_0)).trans hx102_0
      replace hx102_1 := (HB.out.cell (World.block_lt_of_cell? w _ hx102_1)).trans hx102_1
      replace hx102_2 := (HB.out.cell (World.block_lt_of_cell? w _ hx102_2)).trans hx102_2
      have HR102_1 := Aside0.mk hi102_1
      have HC102_1 := Aside0.mk hl102_1
      clear hi102_1 hl102_1
      replace p102 := eq_true p102
      replace q102 := eq_true q102
      go_wp2
      go_ret
      exact ⟨by first | rfl | (simp [errW_none, errW_some] <;> rfl) | (simp [*, errW_none, errW_some] <;> rfl), by repeat (first | (with_reducible first | exact HB.out | apply below_alloc | apply pw_below_drewN | apply below_drew1 | refine below_set ?_ GE101.out) | exact HB.out)⟩
   rw [if_neg c9] at H
   have c9b0 : decide ((wrap64 (2000 - x3_1)) < (((rd_T49 l0_3 x4_1).f1).length : Int)) = false := decide_eq_false c9
   clear c9
   as_aux_lemma =>
    have H' := Aside0.mk H
    clear H
    have hcz11_0 : wr.cell? ⟨gb101, 0, none⟩ = some (.int .i64 a0_0) := (blk_cell BK101.out 0).trans rfl
    have hcz11_1 : wr.cell? ⟨gb101, 1, none⟩ = some (.int .i64 a0_1) := (blk_cell BK101.out 1).trans rfl
    have hcz11_2 : wr.cell? ⟨gb101, 2, none⟩ = some (.int .i64 a0_2) := (blk_cell BK101.out 2).trans rfl
    have hcz11_3 : wr.cell? ⟨gb101, 3, none⟩ = some (.slice A0_3 l0_3.length c0_3) := (blk_cell BK101.out 3).trans rfl
    have hfz11_0 := blk_frozen BK101.out 0
    have hfz11_1 := blk_frozen BK101.out 1
    have hfz11_2 := blk_frozen BK101.out 2
    have hfz11_3 := blk_frozen BK101.out 3
    have p102 : 0 ≤ (x4_1 : Int) := of_decide_eq_true (by first | (with_reducible assumption) | assumption)
    have q102 : x4_1 < (l0_3.length : Int) := of_decide_eq_true (by first | (with_reducible assumption) | assumption)
    obtain ⟨ad102, A102_1, c102_1, e102, hx102_0, hx102_1, hx102_2, hl102_1, hi102_1⟩ := at_T49 HR0_3.out x4_1 p102 q102
    cases e102
    replace hx102_0 := (HB.out.cell (World.block_lt_of_cell? w _ hx102_0)).trans hx102_0
    replace hx102_1 := (HB.out.cell (World.block_lt_of_cell? w _ hx102_1)).trans hx102_1
    replace hx102_2 := (HB.out.cell (World.block_lt_of_cell? w _ hx102_2)).trans hx102_2
    have HR102_1 := Aside0.mk hi102_1
    have HC102_1 := Aside0.mk hl102_1
    clear hi102_1 hl102_1
    replace p102 := eq_true p102
    replace q102 := eq_true q102
    have p103 : 0 ≤ (x4_1 : Int) := of_decide_eq_true (by first | (with_reducible assumption) | assumption)
    have q103 : x4_1 < (l0_3.length : Int) := of_decide_eq_true (by first | (with_reducible assumption) | assumption)
    obtain ⟨ad103, A103_1, c103_1, e103, hx103_0, hx103_1, hx103_2, hl103_1, hi103_1⟩ := at_T49 HR0_3.out x4_1 p103 q103
    obtain rfl : ad102 = ad103 := (by injection e103)
    replace hx103_0 := (HB.out.cell (World.block_lt_of_cell? w _ hx103_0)).trans hx103_0
    replace hx103_1 := (HB.out.cell (World.block_lt_of_cell? w _ hx103_1)).trans hx103_1
    replace hx103_2 := (HB.out.cell (World.block_lt_of_cell? w _ hx103_2)).trans hx103_2
    have HR103_1 := Aside0.mk hi103_1
    have HC103_1 := Aside0.mk hl103_1
    clear hi103_1 hl103_1
    replace p103 := eq_true p103
    replace q103 := eq_true q103
    have ea_ := Option.some.inj (hx102_1.symm.trans hx103_1)
    injection ea_ with ea_ en_ ec_
    subst ea_
    subst ec_
    clear en_
    go_wp2
    go_roundg k1
    case measure => have := HK1.out; omega
    case rel => exact ⟨(wrap64 (x3_1 + (((rd_T49 l0_3 x4_1).f1).length : Int))), (wrap64 (x4_1 + 1)), (by first | rfl | (simp; done) | (simp [*]; done)), (by first | rfl | (simp; done) | (simp [*]; done)), H', ⟨by have := HK1.out; omega⟩, ⟨by (with_reducible repeat (first | refine blk_drewN ?_ _ | refine blk_drew ?_ | refine blk_alloc ?_ _)); exact BK101.out⟩, ⟨by repeat (first | (with_reducible first | exact HB.out | apply below_alloc | apply pw_below_drewN | apply below_drew1 | refine below_set ?_ GE101.out) | exact HB.out)⟩⟩
noncomputable def rootstocklaw17_small.f (k : Nat) (a0_0 : Int) (a0_1 : Int) (a0_2 : Int) (l0_3 : List (S49)) : Option (Bool) := (rootstocklaw14_Great.f k a0_0 a0_1 a0_2 l0_3).bind fun t105 => (if t105 = true then (some false) else (some (decide ((l0_3.length : Int) ≤ 14))))
set_option maxHeartbeats 8000000 in
set_option maxRecDepth 100000 in
theorem rootstocklaw17_small.calls (k : Nat) (a0_0 : Int) (a0_1 : Int) (a0_2 : Int) (A0_3 : Option Addr) (c0_3 : Nat) (l0_3 : List (S49)) (r : Bool) (w : World) (hr0_3 : Kd.C k49 w A0_3 l0_3.length l0_3) (hc0_3 : l0_3.length ≤ c0_3) (h : rootstocklaw17_small.f k a0_0 a0_1 a0_2 l0_3 = some r) :
    Calls Tryd.prog 8 #[.agg #[.int .i64 a0_0, .int .i64 a0_1, .int .i64 a0_2, .slice A0_3 l0_3.length c0_3]] w fun e w' => e = .returned (.bool r) ∧ Below w.heap.size w w' := by
 have hu24 := Tryd.underlying24
 have HR0_3 := Aside0.mk hr0_3
 have HC0_3 := Aside0.mk hc0_3
 clear hr0_3 hc0_3
 have HB := Aside0.mk (Below.refl w.heap.size w)
 have H : ((rootstocklaw14_Great.f k a0_0 a0_1 a0_2 l0_3).bind fun t105 => (if t105 = true then (some false) else (some (decide ((l0_3.length : Int) ≤ 14))))) = some r := h
 clear h
 replace H := Option.bind_eq_some_iff.mp H
 obtain ⟨t105, A20, H⟩ := H
 replace H : (if t105 = true then (some false) else (some (decide ((l0_3.length : Int) ≤ 14)))) = some r := H
 have A2 := Aside0.mk A20
 clear A20
 by_cases c3 : t105 = true
 · subst c3
   have H1 : (some false) = some r := by rw [if_pos rfl] at H; exact H
   clear H
   have H := H1
   clear H1
   as_aux_lemma =>
    obtain rfl := Option.some.inj H
    go_enter Tryd.func8, Tryd.ntmps8
    go_wp2_with (first | ((with_reducible refine gate_dst (N := 1) rfl ?_); (try (refine gate_guard (by rfl) ?_; dsimp only)); refine box_event ?hg (N := 1) ?hd (cs := #[.int .i64 a0_0, .int .i64 a0_1, .int .i64 a0_2, .slice A0_3 l0_3.length c0_3]) (t := 24) ?hr ?_; (case hd => rfl); (case hg => rfl); (case hr => first | (go_simp; done) | (go_simp; rfl)); intro gb104 hg w4 hbox hb; have n0_ := Aside0.mk (below_step (by repeat (first | (with_reducible first | exact HB.out | apply below_alloc | apply pw_below_drewN | apply below_drew1) | exact HB.out)) hb); have n1_ := Aside0.mk (hbox); have n2_ := Aside0.mk ((by rw [hg]; exact (below_size (by repeat (first | (with_reducible first | exact HB.out | apply below_alloc | apply pw_below_drewN | apply below_drew1) | exact HB.out))) : w.heap.size ≤ gb104)); have n3_ := Aside0.mk ((by rw [hg]; exact (below_size (by repeat (first | (with_reducible first | exact HB.out | apply below_alloc | apply pw_below_drewN | apply below_drew1) | exact HB.out))) : w.heap.size ≤ gb104)); clear HB; have HB := n0_; have BK104 := n1_; have GW104 := n2_; have GE104 := n3_; clear n0_ n1_ n2_ n3_; clear hb hbox hg; have hcz5_0 : w4.cell? ⟨gb104, 0, none⟩ = some (.int .i64 a0_0) := (blk_cell BK104.out 0).trans rfl; have hcz5_1 : w4.cell? ⟨gb104, 1, none⟩ = some (.int .i64 a0_1) := (blk_cell BK104.out 1).trans rfl; have hcz5_2 : w4.cell? ⟨gb104, 2, none⟩ = some (.int .i64 a0_2) := (blk_cell BK104.out 2).trans rfl; have hcz5_3 : w4.cell? ⟨gb104, 3, none⟩ = some (.slice A0_3 l0_3.length c0_3) := (blk_cell BK104.out 3).trans rfl; have hfz5_0 := blk_frozen BK104.out 0; have hfz5_1 := blk_frozen BK104.out 1; have hfz5_2 := blk_frozen BK104.out 2; have hfz5_3 := blk_frozen BK104.out 3) | ((with_reducible refine gate_callee (f := 24) rfl ?_); refine goesL_ (some 4) rfl rfl Tryd.func24 (by kernel_rfl) rfl #[.agg #[.int .i64 a0_0, .int .i64 a0_1, .int .i64 a0_2, .slice A0_3 l0_3.length c0_3]] rfl (by (try simp only [List.map_toArray, List.map_cons, List.map_nil]); first | done | rfl | (simp only [List.length_drop, List.length_take]; rfl)) ?_; (with_reducible refine (rootstocklaw14_Great.calls k a0_0 a0_1 a0_2 _ _ l0_3 true _ ?side1 ?side2 A2.out).mono ?_); (case side1 => repeat (first | exact (Kd.C_below HR0_3.out HB.out) | (with_reducible refine Kd.C_alloc ?_ _) | (with_reducible refine Kd.C_drewN ?_ _) | (with_reducible refine Kd.C_drew ?_))); (case side2 => exact HC0_3.out); rintro e w6 ⟨rfl, hb⟩; refine ⟨_, rfl, ?_⟩; have n0_ := Aside0.mk (blk_below (g := gb104) (o := .cells #[.int .i64 a0_0, .int .i64 a0_1, .int .i64 a0_2, .slice A0_3 l0_3.length c0_3] 24 (0, 0)) (by (with_reducible repeat (first | refine blk_drewN ?_ _ | refine blk_drew ?_ | refine blk_alloc ?_ _)); exact BK104.out) hb); have n1_ := Aside0.mk (below_step (by repeat (first | (with_reducible first | exact HB.out | apply below_alloc | apply pw_below_drewN | apply below_drew1 | refine below_set ?_ GE104.out) | exact HB.out)) hb); clear BK104; clear HB; have BK104 := n0_; have HB := n1_; clear n0_ n1_; (try clear hb); (try clear hb2); (try clear hk); (try clear hi)))
    go_ret
    exact ⟨by first | rfl | (simp [errW_none, errW_some] <;> rfl) | (simp [*, errW_none, errW_some] <;> rfl), by repeat (first | (with_reducible first | exact HB.out | apply below_alloc | apply pw_below_drewN | apply below_drew1 | refine below_set ?_ GE104.out) | exact HB.out)⟩
 replace c3 := Bool.eq_false_iff.mpr c3
 subst c3
 have H1 : (some (decide ((l0_3.length : Int) ≤ 14))) = some r := by rw [if_neg (show ¬ (false = true) by decide)] at H; exact H
 clear H
 have H := H1
 clear H1
 as_aux_lemma =>
  obtain rfl := Option.some.inj H
  go_enter Tryd.func8, Tryd.ntmps8
  go_wp2_with (first | ((with_reducible refine gate_dst (N := 1) rfl ?_); (try (refine gate_guard (by rfl) ?_; dsimp only)); refine box_event ?hg (N := 1) ?hd (cs := #[.int .i64 a0_0, .int .i64 a0_1, .int .i64 a0_2, .slice A0_3 l0_3.length c0_3]) (t := 24) ?hr ?_; (case hd => rfl); (case hg => rfl); (case hr => first | (go_simp; done) | (go_simp; rfl)); intro gb104 hg w7 hbox hb; have n0_ := Aside0.mk (below_step (by repeat (first | (with_reducible first | exact HB.out | apply below_alloc | apply pw_below_drewN | apply below_drew1) | exact HB.out)) hb); have n1_ := Aside0.mk (hbox); have n2_ := Aside0.mk ((by rw [hg]; exact (below_size (by repeat (first | (with_reducible first | exact HB.out | apply below_alloc | apply pw_below_drewN | apply below_drew1) | exact HB.out))) : w.heap.size ≤ gb104)); have n3_ := Aside0.mk ((by rw [hg]; exact (below_size (by repeat (first | (with_reducible first | exact HB.out | apply below_alloc | apply pw_below_drewN | apply below_drew1) | exact HB.out))) : w.heap.size ≤ gb104)); clear HB; have HB := n0_; have BK104 := n1_; have GW104 := n2_; have GE104 := n3_; clear n0_ n1_ n2_ n3_; clear hb hbox hg; have hcz8_0 : w7.cell? ⟨gb104, 0, none⟩ = some (.int .i64 a0_0) := (blk_cell BK104.out 0).trans rfl; have hcz8_1 : w7.cell? ⟨gb104, 1, none⟩ = some (.int .i64 a0_1) := (blk_cell BK104.out 1).trans rfl; have hcz8_2 : w7.cell? ⟨gb104, 2, none⟩ = some (.int .i64 a0_2) := (blk_cell BK104.out 2).trans rfl; have hcz8_3 : w7.cell? ⟨gb104, 3, none⟩ = some (.slice A0_3 l0_3.length c0_3) := (blk_cell BK104.out 3).trans rfl; have hfz8_0 := blk_frozen BK104.out 0; have hfz8_1 := blk_frozen BK104.out 1; have hfz8_2 := blk_frozen BK104.out 2; have hfz8_3 := blk_frozen BK104.out 3) | ((with_reducible refine gate_callee (f := 24) rfl ?_); refine goesL_ (some 4) rfl rfl Tryd.func24 (by kernel_rfl) rfl #[.agg #[.int .i64 a0_0, .int .i64 a0_1, .int .i64 a0_2, .slice A0_3 l0_3.length c0_3]] rfl (by (try simp only [List.map_toArray, List.map_cons, List.map_nil]); first | done | rfl | (simp only [List.length_drop, List.length_take]; rfl)) ?_; (with_reducible refine (rootstocklaw14_Great.calls k a0_0 a0_1 a0_2 _ _ l0_3 false _ ?side1 ?side2 A2.out).mono ?_); (case side1 => repeat (first | exact (Kd.C_below HR0_3.out HB.out) | (with_reducible refine Kd.C_alloc ?_ _) | (with_reducible refine Kd.C_drewN ?_ _) | (with_reducible refine Kd.C_drew ?_))); (case side2 => exact HC0_3.out); rintro e w9 ⟨rfl, hb⟩; refine ⟨_, rfl, ?_⟩; have n0_ := Aside0.mk (blk_below (g := gb104) (o := .cells #[.int .i64 a0_0, .int .i64 a0_1, .int .i64 a0_2, .slice A0_3 l0_3.length c0_3] 24 (0, 0)) (by (with_reducible repeat (first | refine blk_drewN ?_ _ | refine blk_drew ?_ | refine blk_alloc ?_ _)); exact BK104.out) hb); have n1_ := Aside0.mk (below_step (by repeat (first | (with_reducible first | exact HB.out | apply below_alloc | apply pw_below_drewN | apply below_drew1 | refine below_set ?_ GE104.out) | exact HB.out)) hb); clear BK104; clear HB; have BK104 := n0_; have HB := n1_; clear n0_ n1_; (try clear hb); (try clear hb2); (try clear hk); (try clear hi); have hcz10_0 : w9.cell? ⟨gb104, 0, none⟩ = some (.int .i64 a0_0) := (blk_cell BK104.out 0).trans rfl; have hcz10_1 : w9.cell? ⟨gb104, 1, none⟩ = some (.int .i64 a0_1) := (blk_cell BK104.out 1).trans rfl; have hcz10_2 : w9.cell? ⟨gb104, 2, none⟩ = some (.int .i64 a0_2) := (blk_cell BK104.out 2).trans rfl; have hcz10_3 : w9.cell? ⟨gb104, 3, none⟩ = some (.slice A0_3 l0_3.length c0_3) := (blk_cell BK104.out 3).trans rfl; have hfz10_0 := blk_frozen BK104.out 0; have hfz10_1 := blk_frozen BK104.out 1; have hfz10_2 := blk_frozen BK104.out 2; have hfz10_3 := blk_frozen BK104.out 3))
  go_ret
  exact ⟨by first | rfl | (simp [errW_none, errW_some] <;> rfl) | (simp [*, errW_none, errW_some] <;> rfl), by repeat (first | (with_reducible first | exact HB.out | apply below_alloc | apply pw_below_drewN | apply below_drew1 | refine below_set ?_ GE104.out) | exact HB.out)⟩
def toPr (x : S49) : H.Pr := ⟨x.f0, x.f1, x.f2⟩
def toGr (a b c : Int) (l : List S49) : H.Gr := ⟨a, b, c, l.map toPr⟩
theorem rdI_of {w : World} {A : Option Addr} {n : Nat} {xs : List Int} (h : (Kd.int .i64).C w A n xs) : H.Rd H.eI 1 w w.heap.size A xs := by
  intro i hi
  obtain ⟨h1, h2, h3⟩ := h
  obtain ⟨ad, e, hc⟩ := h3 (by omega)
  obtain ⟨c, _, hc1, hc2⟩ := hc i _ (List.getElem?_eq_getElem hi)
  have hc1' : c = [.int .i64 xs[i]] := hc1
  subst hc1'
  have h0 : w.cell? (ad.add (i * 1)) = some (.int .i64 xs[i]) := hc2 0 _ rfl
  refine ⟨ad, e, ?_, fun j u hu => ?_⟩
  · have := H.cell_lt h0; rwa [H.add_block] at this
  · have hj : j = 0 := by
      rcases j with _ | j
      · rfl
      · simp [H.eI] at hu
    subst hj
    have hu' : u = .int .i64 xs[i] := by simpa [H.eI] using hu.symm
    subst hu'
    have e0 : ∀ x : Addr, x.add 0 = x := fun x => by simp [Addr.add]
    rw [e0]
    exact h0
theorem rdP_of {w : World} {A : Option Addr} {l : List S49} (h : Kd.C k49 w A l.length l) : H.RdP w w.heap.size A (l.map toPr) := by
  intro i hi
  have hi' : i < l.length := by simpa using hi
  obtain ⟨ad, A1, c1, e, c0, k1, k2, hl, hr⟩ := at_T49 h (i : Int) (by omega) (by omega)
  have hx : rd_T49 l (i : Int) = l[i] := by simp [rd_T49, List.getD_eq_getElem?_getD, hi']
  rw [hx] at c0 k1 k2 hl hr
  simp only [Int.toNat_natCast] at c0 k1 k2
  refine ⟨ad, A1, c1, e, ?_, ?_, ?_, ?_, ?_, ?_⟩
  · have := H.cell_lt c0; rwa [H.add_block] at this
  · simpa [toPr] using c0
  · simpa [toPr] using k1
  · simpa [toPr] using k2
  · simpa [toPr] using hl
  · simpa [toPr] using rdI_of hr
theorem grIn_of {w : World} {A : Option Addr} {c : Nat} {x y z : Int} {l : List S49} (h : Kd.C k49 w A l.length l) (hc : l.length ≤ c) : H.GrIn w (toGr x y z l) A c := by
  refine ⟨by simpa [toGr] using hc, by have := Kd.C_max h; simpa [toGr] using this, fun p hp => ?_, rdP_of h⟩
  obtain ⟨i, hi, rfl⟩ := List.getElem_of_mem hp
  have hi' : i < l.length := by simpa [toGr] using hi
  obtain ⟨ad, A1, c1, e, c0, k1, k2, hl, hr⟩ := at_T49 h (i : Int) (by omega) (by omega)
  have hx : rd_T49 l (i : Int) = l[i] := by simp [rd_T49, List.getD_eq_getElem?_getD, hi']
  rw [hx] at hr
  have := Kd.C_max hr
  simpa [toGr, toPr] using this
theorem grV_of (A : Option Addr) (c : Nat) (x y z : Int) (l : List S49) : H.grV (toGr x y z l) A c = .agg #[.int .i64 x, .int .i64 y, .int .i64 z, .slice A l.length c] := by simp [H.grV, toGr]
def unPr (p : H.Pr) : S49 := ⟨p.head, p.body, p.right⟩
def unAc (x : H.Ac) : S46 := ⟨x.sh, x.rd, x.ac⟩
def tabP (g : H.Gr) : Int × Int × Int × List (S49) × List (List (S46)) × List (List Int) × Int :=
  if H.checkI g ≠ 0 then (0, 0, 0, [], [], [], H.checkI g) else if (H.statesM g).full = true then (0, 0, 0, [], [], [], 3) else
  (g.T, g.S, g.st, g.ps.map unPr, (H.statesM g).sts.map (fun s => (H.actsM g (H.firstEnd g) s).map unAc), (H.statesM g).sts.map H.StD.led, 0)
theorem R_map {α β : Type} {d : Kd α} {d' : Kd β} {e : Nat} {w : World} {base : Nat} {ok : Nat → Prop} {v : Value} {xs : List α} (f : α → β) (hs : d'.sz = d.sz) (hM : ∀ ok x cs, d.M w base ok x cs → d'.M w base ok (f x) cs) (h : d.R e w base ok v xs) : d'.R e w base ok v (xs.map f) := by
  obtain ⟨h0, inner, ho, hr⟩ := h
  refine ⟨h0, inner, by rw [hs, List.length_map]; exact ho, by rw [hs, List.length_map]; exact hr.1, fun j p hj => ?_⟩
  rw [List.getElem?_map] at hj
  obtain ⟨x, hx, rfl⟩ := Option.map_eq_some_iff.1 hj
  rw [hs]
  exact hM _ _ _ (hr.2 j x hx)
noncomputable def tables_Of.f (a0_0 : Int) (a0_1 : Int) (a0_2 : Int) (l0_3 : List (S49)) : Option (Int × Int × Int × List (S49) × List (List (S46)) × List (List Int) × Int) := some (tabP (toGr a0_0 a0_1 a0_2 l0_3))
theorem tables_Of.calls (a0_0 : Int) (a0_1 : Int) (a0_2 : Int) (A0_3 : Option Addr) (c0_3 : Nat) (l0_3 : List (S49)) (r1 : Int) (r2 : Int) (r3 : Int) (r4 : List (S49)) (r5 : List (List (S46))) (r6 : List (List Int)) (r7 : Int) (w : World) (hr0_3 : Kd.C k49 w A0_3 l0_3.length l0_3) (hc0_3 : l0_3.length ≤ c0_3) (h : tables_Of.f a0_0 a0_1 a0_2 l0_3 = some (r1, r2, r3, r4, r5, r6, r7)) (hl_ : H.Laid w) :
    Calls Tryd.prog 12 #[.agg #[.int .i64 a0_0, .int .i64 a0_1, .int .i64 a0_2, .slice A0_3 l0_3.length c0_3]] w fun e w' => ∃ v3_ v4_ v5_ : Value, e = .returned (.tuple #[.agg #[.int .i64 r1, .int .i64 r2, .int .i64 r3, v3_, v4_, v5_], .int .i64 r7]) ∧ Kd.R k49 49 w' w.heap.size (fun _ => True) v3_ r4 ∧ Kd.R (Kd.slice 46 k46) 37 w' w.heap.size (fun _ => True) v4_ r5 ∧ Kd.R (Kd.slice 3 (Kd.int .i64)) 44 w' w.heap.size (fun _ => True) v5_ r6 ∧ Below w.heap.size w w' := by
  have h' := Option.some.inj h
  rw [← grV_of]
  refine (H.of_tab _ _ _ w (grIn_of hr0_3 hc0_3) hl_).mono ?_
  rintro e w' ⟨hb, hp⟩
  unfold tabP at h'
  rcases hp with ⟨h1, rfl⟩ | ⟨h1, h2, rfl⟩ | ⟨h1, h2, vP, vA, vG, rfl, hP, hA, hG⟩
  · rw [if_pos h1] at h'
    simp only [Prod.mk.injEq] at h'
    obtain ⟨rfl, rfl, rfl, rfl, rfl, rfl, rfl⟩ := h'
    exact ⟨_, _, _, rfl, Kd.R_nil _ _ _ _ _, Kd.R_nil _ _ _ _ _, Kd.R_nil _ _ _ _ _, hb⟩
  · rw [if_neg (fun e => e h1), if_pos h2] at h'
    simp only [Prod.mk.injEq] at h'
    obtain ⟨rfl, rfl, rfl, rfl, rfl, rfl, rfl⟩ := h'
    exact ⟨_, _, _, rfl, Kd.R_nil _ _ _ _ _, Kd.R_nil _ _ _ _ _, Kd.R_nil _ _ _ _ _, hb⟩
  · rw [if_neg (fun e => e h1), if_neg (by rw [h2]; exact Bool.false_ne_true)] at h'
    simp only [Prod.mk.injEq] at h'
    obtain ⟨rfl, rfl, rfl, rfl, rfl, rfl, rfl⟩ := h'
    refine ⟨vP, vA, vG, rfl, R_map unPr rfl (fun _ _ _ h => h) hP, ?_, hG, hb⟩
    have := R_map (d := H.kRow) (d' := Kd.slice 46 k46) (fun l : List H.Ac => l.map unAc) rfl (fun ok x cs ⟨v, e, hv⟩ => ⟨v, e, R_map unAc rfl (fun _ _ _ h => h) hv⟩) hA
    rw [List.map_map] at this
    exact this
noncomputable def rootstocklaw17_lives.f  : Option (Bool) := some true
theorem rootstocklaw17_lives.calls  (r : Bool) (w : World) (h : rootstocklaw17_lives.f  = some r) (hl_ : H.Laid w) :
    Calls Tryd.prog 9 #[] w fun e w' => e = .returned (.bool r) ∧ Below w.heap.size w w' := by
  obtain rfl := Option.some.inj h
  exact PLi.lives_any w hl_
def toAc (x : S46) : H.Ac := ⟨x.f0, x.f1, x.f2⟩
theorem tabIn_of {w : World} {A G : Option Addr} {al : List (List S46)} {gl : List (List Int)} (hA : Kd.C (Kd.slice 46 k46) w A al.length al) (hG : Kd.C (Kd.slice 3 (Kd.int .i64)) w G gl.length gl) : H.TabIn w A G (al.map (List.map toAc)) gl := by
  have a0 : ∀ x : Addr, ∀ n : Nat, x.add (n * 1 + 0) = x.add n := fun x n => by rw [Nat.mul_one, Nat.add_zero]
  refine ⟨fun s hs => ?_, fun s hs => ?_⟩
  · have hs' : s < al.length := by simpa using hs
    obtain ⟨_, _, h3⟩ := hA
    obtain ⟨ad, e, hc⟩ := h3 (by omega)
    obtain ⟨cs, _, hK, hcell⟩ := hc s _ (List.getElem?_eq_getElem hs')
    obtain ⟨Ar, cr, rfl, hl, hC⟩ := hK
    have h0 : w.cell? (ad.add (s * 1 + 0)) = _ := hcell 0 _ rfl
    rw [a0] at h0
    refine ⟨ad, Ar, cr, e, by have := H.cell_lt h0; rwa [H.add_block] at this, by rw [h0]; simp, by simpa using hl, fun a ha => ?_⟩
    have ha' : a < al[s].length := by simpa using ha
    obtain ⟨ar, A1, c1, e1, k0, k1, k2, hl1, hr1⟩ := at_T46 hC (a : Int) (by omega) (by omega)
    have hx : rd_T46 al[s] (a : Int) = al[s][a] := by simp [rd_T46, List.getD_eq_getElem?_getD, ha']
    rw [hx] at k0 k1 k2 hl1 hr1
    simp only [Int.toNat_natCast] at k0 k1 k2
    have ee : (List.map (List.map toAc) al)[s][a] = toAc al[s][a] := by simp
    rw [ee]
    exact ⟨ar, A1, c1, e1, by have := H.cell_lt k0; rwa [H.add_block] at this, k0, k1, k2, hl1, rdI_of hr1⟩
  · obtain ⟨_, _, h3⟩ := hG
    obtain ⟨ad, e, hc⟩ := h3 (by omega)
    obtain ⟨cs, _, hK, hcell⟩ := hc s _ (List.getElem?_eq_getElem hs)
    obtain ⟨Ar, cr, rfl, hl, hC⟩ := hK
    have h0 : w.cell? (ad.add (s * 1 + 0)) = _ := hcell 0 _ rfl
    rw [a0] at h0
    exact ⟨ad, Ar, cr, e, by have := H.cell_lt h0; rwa [H.add_block] at this, h0, hl, rdI_of hC⟩
open Classical in
noncomputable def rootstocklaw17_whole.f (a0_0 : Int) (a0_1 : Int) (a0_2 : Int) (l0_3 : List (S49)) (l0_4 : List (List (S46))) (l0_5 : List (List Int)) : Option (Bool) := if H.WholeH a0_0 a0_1 l0_3.length (l0_4.map (List.map toAc)) l0_5 then some true else none
theorem rootstocklaw17_whole.calls (a0_0 : Int) (a0_1 : Int) (a0_2 : Int) (A0_3 : Option Addr) (c0_3 : Nat) (l0_3 : List (S49)) (A0_4 : Option Addr) (c0_4 : Nat) (l0_4 : List (List (S46))) (A0_5 : Option Addr) (c0_5 : Nat) (l0_5 : List (List Int)) (r : Bool) (w : World) (hr0_3 : Kd.C k49 w A0_3 l0_3.length l0_3) (hc0_3 : l0_3.length ≤ c0_3) (hr0_4 : Kd.C (Kd.slice 46 k46) w A0_4 l0_4.length l0_4) (hc0_4 : l0_4.length ≤ c0_4) (hr0_5 : Kd.C (Kd.slice 3 (Kd.int .i64)) w A0_5 l0_5.length l0_5) (hc0_5 : l0_5.length ≤ c0_5) (h : rootstocklaw17_whole.f a0_0 a0_1 a0_2 l0_3 l0_4 l0_5 = some r) :
    Calls Tryd.prog 17 #[.agg #[.int .i64 a0_0, .int .i64 a0_1, .int .i64 a0_2, .slice A0_3 l0_3.length c0_3, .slice A0_4 l0_4.length c0_4, .slice A0_5 l0_5.length c0_5]] w fun e w' => e = .returned (.bool r) ∧ Below w.heap.size w w' := by
  unfold rootstocklaw17_whole.f at h
  split at h
  · rename_i hw
    obtain rfl := Option.some.inj h
    have := H.whole_any a0_0 a0_1 a0_2 A0_3 A0_4 A0_5 l0_3.length c0_3 c0_4 c0_5 _ _ w (tabIn_of hr0_4 hr0_5) hw
    rw [List.length_map] at this
    exact this
  · cases h
mutual
noncomputable def rootstocklaw14_Nodes.l0 : Nat → Int → Int → Int → Int → Int → List (S52) → Option (Int)
  | 0, _, _, _, _, _, _ => none
  | k + 1, x1, x5, x6, x107000, x107001, x107002 => if x6 < (x107002.length : Int) then (if x5 ≤ x1 then (if 0 ≤ x6 then ((rootstocklaw14_Nodes.f k ((rd_T52 x107002 x6).f0) ((rd_T52 x107002 x6).f1) ((rd_T52 x107002 x6).f2) (wrap64 (x1 - x5))).bind fun t108 => (rootstocklaw14_Nodes.l0 k x1 (wrap64 (x5 + t108)) (wrap64 (x6 + 1)) x107000 x107001 x107002)) else (none)) else (some x5)) else (some x5)
noncomputable def rootstocklaw14_Nodes.f : Nat → Int → Int → List (S52) → Int → Option (Int)
  | 0, _, _, _, _ => none
  | k + 1, a0_0, a0_1, l0_2, a1 => rootstocklaw14_Nodes.l0 k a1 1 0 a0_0 a0_1 l0_2
end
set_option maxHeartbeats 8000000 in
set_option maxRecDepth 100000 in
theorem rootstocklaw14_Nodes.calls (k : Nat) : ∀ (a0_0 : Int) (a0_1 : Int) (A0_2 : Option Addr) (c0_2 : Nat) (l0_2 : List (S52)) (a1 : Int) (r : Int) (w : World) (hr0_2 : Kd.C k52 w A0_2 l0_2.length l0_2) (hc0_2 : l0_2.length ≤ c0_2) (h : rootstocklaw14_Nodes.f k a0_0 a0_1 l0_2 a1 = some r),
    Calls Tryd.prog 19 #[.agg #[.int .i64 a0_0, .int .i64 a0_1, .slice A0_2 l0_2.length c0_2], .int .i64 a1] w fun e w' => e = .returned (.int .i64 r) ∧ Below w.heap.size w w' := by
 induction k using Nat.strongRecOn with
 | _ k ih =>
 intro a0_0 a0_1 A0_2 c0_2 l0_2 a1 r w hr0_2 hc0_2 h
 cases k with
 | zero => exact absurd h (by simp [rootstocklaw14_Nodes.f])
 | succ k =>
 simp only [rootstocklaw14_Nodes.f] at h
 have hu52 := Tryd.underlying52
 have HR0_2 := Aside0.mk hr0_2
 have HC0_2 := Aside0.mk hc0_2
 clear hr0_2 hc0_2
 have HB := Aside0.mk (Below.refl w.heap.size w)
 have H : (rootstocklaw14_Nodes.l0 k a1 1 0 a0_0 a0_1 l0_2) = some r := h
 clear h
 have H' := Aside0.mk H
 clear H
 go_enter Tryd.func19, Tryd.ntmps19
 go_wp2_with (first | ((with_reducible refine gate_dst (N := 2) rfl ?_); refine box_event ?hg (N := 2) ?hd (cs := #[.int .i64 a0_0, .int .i64 a0_1, .slice A0_2 l0_2.length c0_2]) (t := 52) ?hr ?_; (case hd => rfl); (case hg => rfl); (case hr => first | (go_simp; done) | (go_simp; rfl)); intro gb106 hg w3 hbox hb; have n0_ := Aside0.mk (below_step (by repeat (first | (with_reducible first | exact HB.out | apply below_alloc | apply pw_below_drewN | apply below_drew1) | exact HB.out)) hb); have n1_ := Aside0.mk (hbox); have n2_ := Aside0.mk ((by rw [hg]; exact (below_size (by repeat (first | (with_reducible first | exact HB.out | apply below_alloc | apply pw_below_drewN | apply below_drew1) | exact HB.out))) : w.heap.size ≤ gb106)); have n3_ := Aside0.mk ((by rw [hg]; exact (below_size (by repeat (first | (with_reducible first | exact HB.out | apply below_alloc | apply pw_below_drewN | apply below_drew1) | exact HB.out))) : w.heap.size ≤ gb106)); clear HB; have HB := n0_; have BK106 := n1_; have GW106 := n2_; have GE106 := n3_; clear n0_ n1_ n2_ n3_; clear hb hbox hg))
 go_loopg [5, 6] k (fun kq v5 v6 w' => ∃ (x5_1 : Int) (x6_1 : Int), v5 = .int .i64 x5_1 ∧ v6 = .int .i64 x6_1 ∧ Aside0 (rootstocklaw14_Nodes.l0 kq a1 x5_1 x6_1 a0_0 a0_1 l0_2 = some r) ∧ Aside0 (kq ≤ k) ∧ Aside0 (w'.heap[gb106]? = some (.cells #[.int .i64 a0_0, .int .i64 a0_1, (.slice A0_2 l0_2.length c0_2)] 52 (0, 0))) ∧ Aside0 (Below w.heap.size w w'))
 case atStart => exact ⟨(1), (0), (by first | rfl | (simp; done) | (simp [*]; done)), (by first | rfl | (simp; done) | (simp [*]; done)), H', ⟨Nat.le_refl _⟩, ⟨by (with_reducible repeat (first | refine blk_drewN ?_ _ | refine blk_drew ?_ | refine blk_alloc ?_ _)); exact BK106.out⟩, ⟨by repeat (first | (with_reducible first | exact HB.out | apply below_alloc | apply pw_below_drewN | apply below_drew1 | refine below_set ?_ GE106.out) | exact HB.out)⟩⟩
 case round =>
  clear H'
  try clear c1
  try clear p2
  obtain ⟨x5_1, x6_1, rfl, rfl, HA, HK1, BK106, HB⟩ := hrel
  cases gk with
  | zero => exact absurd HA.out (by simp [rootstocklaw14_Nodes.l0])
  | succ k1 =>
   have H := HA.out
   clear HA
   simp only [rootstocklaw14_Nodes.l0] at H
   by_cases c4 : x6_1 < (l0_2.length : Int)
   rotate_left
   · rw [if_neg c4] at H
     have c4b0 : decide (x6_1 < (l0_2.length : Int)) = false := decide_eq_false c4
     clear c4
     as_aux_lemma =>
      obtain rfl := Option.some.inj H
      have hcz11_0 : wr.cell? ⟨gb106, 0, none⟩ = some (.int .i64 a0_0) := (blk_cell BK106.out 0).trans rfl
      have hcz11_1 : wr.cell? ⟨gb106, 1, none⟩ = some (.int .i64 a0_1) := (blk_cell BK106.out 1).trans rfl
      have hcz11_2 : wr.cell? ⟨gb106, 2, none⟩ = some (.slice A0_2 l0_2.length c0_2) := (blk_cell BK106.out 2).trans rfl
      have hfz11_0 := blk_frozen BK106.out 0
      have hfz11_1 := blk_frozen BK106.out 1
      have hfz11_2 := blk_frozen BK106.out 2
      go_wp2
      go_ret
      exact ⟨by first | rfl | (simp [errW_none, errW_some] <;> rfl) | (simp [*, errW_none, errW_some] <;> rfl), by repeat (first | (with_reducible first | exact HB.out | apply below_alloc | apply pw_below_drewN | apply below_drew1 | refine below_set ?_ GE106.out) | exact HB.out)⟩
   rw [if_pos c4] at H
   have c4b0 : decide (x6_1 < (l0_2.length : Int)) = true := decide_eq_true c4
   clear c4
   by_cases c5 : x5_1 ≤ a1
   rotate_left
   · rw [if_neg c5] at H
     have c5b0 : decide (x5_1 ≤ a1) = false := decide_eq_false c5
     clear c5
     as_aux_lemma =>
      obtain rfl := Option.some.inj H
      have hcz10_0 : wr.cell? ⟨gb106, 0, none⟩ = some (.int .i64 a0_0) := (blk_cell BK106.out 0).trans rfl
      have hcz10_1 : wr.cell? ⟨gb106, 1, none⟩ = some (.int .i64 a0_1) := (blk_cell BK106.out 1).trans rfl
      have hcz10_2 : wr.cell? ⟨gb106, 2, none⟩ = some (.slice A0_2 l0_2.length c0_2) := (blk_cell BK106.out 2).trans rfl
      have hfz10_0 := blk_frozen BK106.out 0
      have hfz10_1 := blk_frozen BK106.out 1
      have hfz10_2 := blk_frozen BK106.out 2
      go_wp2
      go_ret
      exact ⟨by first | rfl | (simp [errW_none, errW_some] <;> rfl) | (simp [*, errW_none, errW_some] <;> rfl), by repeat (first | (with_reducible first | exact HB.out | apply below_alloc | apply pw_below_drewN | apply below_drew1 | refine below_set ?_ GE106.out) | exact HB.out)⟩
   rw [if_pos c5] at H
   have c5b0 : decide (x5_1 ≤ a1) = true := decide_eq_true c5
   clear c5
   by_cases c6 : 0 ≤ x6_1
   rotate_left
   · rw [if_neg c6] at H
     exact absurd H (by simp)
   rw [if_pos c6] at H
   have c6b0 : decide (0 ≤ x6_1) = true := decide_eq_true c6
   clear c6
   replace H := Option.bind_eq_some_iff.mp H
   obtain ⟨t108, A70, H⟩ := H
   replace H : (rootstocklaw14_Nodes.l0 k1 a1 (wrap64 (x5_1 + t108)) (wrap64 (x6_1 + 1)) a0_0 a0_1 l0_2) = some r := H
   have A7 := Aside0.mk A70
   clear A70
   as_aux_lemma =>
    have H' := Aside0.mk H
    clear H
    have hcz8_0 : wr.cell? ⟨gb106, 0, none⟩ = some (.int .i64 a0_0) := (blk_cell BK106.out 0).trans rfl
    have hcz8_1 : wr.cell? ⟨gb106, 1, none⟩ = some (.int .i64 a0_1) := (blk_cell BK106.out 1).trans rfl
    have hcz8_2 : wr.cell? ⟨gb106, 2, none⟩ = some (.slice A0_2 l0_2.length c0_2) := (blk_cell BK106.out 2).trans rfl
    have hfz8_0 := blk_frozen BK106.out 0
    have hfz8_1 := blk_frozen BK106.out 1
    have hfz8_2 := blk_frozen BK106.out 2
    have p107 : 0 ≤ (x6_1 : Int) := of_decide_eq_true (by first | (with_reducible assumption) | assumption)
    have q107 : x6_1 < (l0_2.length : Int) := of_decide_eq_true (by first | (with_reducible assumption) | assumption)
    obtain ⟨ad107, A107_2, c107_2, e107, hx107_0, hx107_1, hx107_2, hl107_2, hi107_2⟩ := at_T52 HR0_2.out x6_1 p107 q107
    cases e107
    replace hx107_0 := (HB.out.cell (World.block_lt_of_cell? w _ hx107_0)).trans hx107_0
    replace hx107_1 := (HB.out.cell (World.block_lt_of_cell? w _ hx107_1)).trans hx107_1
    replace hx107_2 := (HB.out.cell (World.block_lt_of_cell? w _ hx107_2)).trans hx107_2
    have HR107_2 := Aside0.mk hi107_2
    have HC107_2 := Aside0.mk hl107_2
    clear hi107_2 hl107_2
    replace p107 := eq_true p107
    replace q107 := eq_true q107
    go_wp2_with (first | ((with_reducible refine gate_callee (f := 19) rfl ?_); refine goesL_ (some 28) rfl rfl Tryd.func19 (by kernel_rfl) rfl #[.agg #[.int .i64 ((rd_T52 l0_2 x6_1).f0), .int .i64 ((rd_T52 l0_2 x6_1).f1), .slice A107_2 ((rd_T52 l0_2 x6_1).f2).length c107_2], .int .i64 (wrap64 (a1 - x5_1))] rfl (by (try simp only [List.map_toArray, List.map_cons, List.map_nil]); first | done | rfl | (simp only [List.length_drop, List.length_take]; rfl)) ?_; (with_reducible refine (ih k1 (by have := HK1.out; omega) ((rd_T52 l0_2 x6_1).f0) ((rd_T52 l0_2 x6_1).f1) _ _ ((rd_T52 l0_2 x6_1).f2) (wrap64 (a1 - x5_1)) t108 _ ?side1 ?side2 A7.out).mono ?_); (case side1 => repeat (first | exact (Kd.C_below HR107_2.out HB.out) | (with_reducible refine Kd.C_alloc ?_ _) | (with_reducible refine Kd.C_drewN ?_ _) | (with_reducible refine Kd.C_drew ?_))); (case side2 => exact HC107_2.out); rintro e w9 ⟨rfl, hb⟩; refine ⟨_, rfl, ?_⟩; have n0_ := Aside0.mk (blk_below (g := gb106) (o := .cells #[.int .i64 a0_0, .int .i64 a0_1, .slice (some ad107) l0_2.length c0_2] 52 (0, 0)) (by (with_reducible repeat (first | refine blk_drewN ?_ _ | refine blk_drew ?_ | refine blk_alloc ?_ _)); exact BK106.out) hb); have n1_ := Aside0.mk (below_step (by repeat (first | (with_reducible first | exact HB.out | apply below_alloc | apply pw_below_drewN | apply below_drew1 | refine below_set ?_ GE106.out) | exact HB.out)) hb); clear BK106; clear HB; have BK106 := n0_; have HB := n1_; clear n0_ n1_; (try clear hb); (try clear hb2); (try clear hk); (try clear hi)))
    go_roundg k1
    case measure => have := HK1.out; omega
    case rel => exact ⟨(wrap64 (x5_1 + t108)), (wrap64 (x6_1 + 1)), (by first | rfl | (simp; done) | (simp [*]; done)), (by first | rfl | (simp; done) | (simp [*]; done)), H', ⟨by have := HK1.out; omega⟩, ⟨by (with_reducible repeat (first | refine blk_drewN ?_ _ | refine blk_drew ?_ | refine blk_alloc ?_ _)); exact BK106.out⟩, ⟨by repeat (first | (with_reducible first | exact HB.out | apply below_alloc | apply pw_below_drewN | apply below_drew1 | refine below_set ?_ GE106.out) | exact HB.out)⟩⟩
noncomputable def grams_Check.f (a0_0 : Int) (a0_1 : Int) (a0_2 : Int) (l0_3 : List (S49)) : Option (Int) := some (H.checkI (toGr a0_0 a0_1 a0_2 l0_3))
theorem grams_Check.calls (a0_0 : Int) (a0_1 : Int) (a0_2 : Int) (A0_3 : Option Addr) (c0_3 : Nat) (l0_3 : List (S49)) (r : Int) (w : World) (hr0_3 : Kd.C k49 w A0_3 l0_3.length l0_3) (hc0_3 : l0_3.length ≤ c0_3) (h : grams_Check.f a0_0 a0_1 a0_2 l0_3 = some r) :
    Calls Tryd.prog 32 #[.agg #[.int .i64 a0_0, .int .i64 a0_1, .int .i64 a0_2, .slice A0_3 l0_3.length c0_3]] w fun e w' => e = .returned (.int .i64 r) ∧ Below w.heap.size w w' := by
  obtain rfl := Option.some.inj h
  rw [← grV_of]
  exact H.check_any _ _ _ w (grIn_of hr0_3 hc0_3)
mutual
noncomputable def derive_fits.j0 : Nat → Bool → Int → Int → Int → List (S49) → Int → Int → List (S52) → Option (Int)
  | 0, _, _, _, _, _, _, _, _ => none
  | k + 1, x20, x110000, x110001, x110002, x110003, x111000, x111001, x111002 => if x20 = true then (some 2) else (if x111000 < x110000 then (if x111001 = (-1) then (if (x111002.length : Int) > 0 then (some 200) else (some 0)) else (some 200)) else (if x111001 < 0 then (derive_fits.j1 k true x110000 x110001 x110002 x110003 x111000 x111001 x111002) else (derive_fits.j1 k (decide (x111001 ≥ (x110003.length : Int))) x110000 x110001 x110002 x110003 x111000 x111001 x111002)))
noncomputable def derive_fits.j1 : Nat → Bool → Int → Int → Int → List (S49) → Int → Int → List (S52) → Option (Int)
  | 0, _, _, _, _, _, _, _, _ => none
  | k + 1, x45, x110000, x110001, x110002, x110003, x111000, x111001, x111002 => if x45 = true then (some 2) else (if 0 ≤ x111001 then (if x111001 < (x110003.length : Int) then (if ((rd_T49 x110003 x111001).f0) = x111000 then (derive_fits.j2 k ((((rd_T49 x110003 x111001).f1).length : Int) != (x111002.length : Int)) x110000 x110001 x110002 x110003 x111000 x111001 x111002 ((rd_T49 x110003 x111001).f0) ((rd_T49 x110003 x111001).f1) ((rd_T49 x110003 x111001).f2)) else (derive_fits.j2 k true x110000 x110001 x110002 x110003 x111000 x111001 x111002 ((rd_T49 x110003 x111001).f0) ((rd_T49 x110003 x111001).f1) ((rd_T49 x110003 x111001).f2))) else (none)) else (none))
noncomputable def derive_fits.j2 : Nat → Bool → Int → Int → Int → List (S49) → Int → Int → List (S52) → Int → List Int → Bool → Option (Int)
  | 0, _, _, _, _, _, _, _, _, _, _, _ => none
  | k + 1, x65, x110000, x110001, x110002, x110003, x111000, x111001, x111002, x113000, x113001, x113002 => if x65 = true then (some 200) else (derive_fits.l0 k x111002 (x111002.length : Int) 0 x110000 x110001 x110002 x110003 x111000 x111001 x111002 x113000 x113001 x113002)
noncomputable def derive_fits.l0 : Nat → List (S52) → Int → Int → Int → Int → Int → List (S49) → Int → Int → List (S52) → Int → List Int → Bool → Option (Int)
  | 0, _, _, _, _, _, _, _, _, _, _, _, _, _ => none
  | k + 1, x67, x68, x69, x110000, x110001, x110002, x110003, x111000, x111001, x111002, x113000, x113001, x113002 => if x69 < x68 then (if 0 ≤ x69 then (if x69 < (x67.length : Int) then (if x69 < (x113001.length : Int) then (if ((rd_T52 x67 x69).f0) = (rd x113001 x69) then (derive_fits.l0 k x67 x68 (wrap64 (x69 + 1)) x110000 x110001 x110002 x110003 x111000 x111001 x111002 x113000 x113001 x113002) else (some 200)) else (none)) else (none)) else (none)) else (derive_fits.l1 k x111002 (x111002.length : Int) 0 x110000 x110001 x110002 x110003)
noncomputable def derive_fits.l1 : Nat → List (S52) → Int → Int → Int → Int → Int → List (S49) → Option (Int)
  | 0, _, _, _, _, _, _, _ => none
  | k + 1, x84, x85, x86, x110000, x110001, x110002, x110003 => if x86 < x85 then (if 0 ≤ x86 then (if x86 < (x84.length : Int) then ((derive_fits.f k x110000 x110001 x110002 x110003 ((rd_T52 x84 x86).f0) ((rd_T52 x84 x86).f1) ((rd_T52 x84 x86).f2)).bind fun t118 => (if t118 = 0 then (derive_fits.l1 k x84 x85 (wrap64 (x86 + 1)) x110000 x110001 x110002 x110003) else (some t118))) else (none)) else (none)) else (some 0)
noncomputable def derive_fits.f : Nat → Int → Int → Int → List (S49) → Int → Int → List (S52) → Option (Int)
  | 0, _, _, _, _, _, _, _ => none
  | k + 1, a0_0, a0_1, a0_2, l0_3, a1_0, a1_1, l1_2 => if a1_0 < 0 then (derive_fits.j0 k true a0_0 a0_1 a0_2 l0_3 a1_0 a1_1 l1_2) else (derive_fits.j0 k (decide (a1_0 ≥ a0_1)) a0_0 a0_1 a0_2 l0_3 a1_0 a1_1 l1_2)
end
end Go.Proofs.YtaooejidkeojjaaDoor.PFw
