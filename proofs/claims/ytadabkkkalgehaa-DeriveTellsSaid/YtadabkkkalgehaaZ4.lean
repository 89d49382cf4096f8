import Derived.Test.YtadabkkkalgehaaProg
import Derived.Below
import Derived.Deep.Draws
import Derived.Deep.AppendLies
import Derived.Maps.AppendAt
import Derived.OwnWalk
import Derived.Laws.BytesArg
import Derived.Laws.MakeOwn
import Derived.Laws.OwnMore
import Derived.Deep.OwnRows
import Derived.Tactics
import Derived.Lib.ConvBytes
import Derived.Laws.Slices
import Derived.WalkKit
import Derived.KernelRfl
import Derived.RowKit3
import Derived.Deep.LoopGhost
import Derived.Deep.QuietTactic
import Derived.BigQuiet
import Derived.WideLaws
import Derived.Deep.DeepCutAuto
import Derived.Deep.CutBlock
import Derived.Deep.RegionHeld3
import Derived.Laws.Rows
import Derived.Lib.AppendStr
import Derived.ArgAppend
import Derived.Laws.IdiomCopy
import Derived.OrdersHeld
import Derived.Laws.BitsLemmas
import Derived.RowKit
import Derived.Test.YtadabkkkalgehaaZ1
import Derived.Test.YtadabkkkalgehaaZ2
import Derived.Laws.EntriesVeiled
import Derived.Test.YtadabkkkalgehaaWWords
import Derived.Test.YtadabkkkalgehaaZ3
import Derived.StillTailTactics
namespace Go.Proofs.Ytadabkkkalgehaa.PLi
open Go.RowKit Go.Proofs.YtadabkkkalgehaaW.PrintWords Go.Proofs.YtadabkkkalgehaaW.PrintLast Go.Proofs.YtadabkkkalgehaaW.PrintMore
attribute [local go_sem] max2_int min2_int max_two min_two max_three min_three max_four min_four   -- for this text's walks alone
set_option linter.unusedVariables false
set_option linter.unusedSimpArgs false
theorem info3 : (Try.prog.info? 3).map (fun i => (i.zero, i.size, i.bytes)) = some (some (.int .i64 0), 1, 8) := by kernel_rfl
structure S55 where
  f0 : Int
  f1 : (List Int)
  f2 : Bool
def z55 : S55 := ⟨(0 : Int), ([] : List Int), false⟩
def k55 : Kd S55 := Kd.iso (Kd.pair (Kd.int .i64) (Kd.pair (Kd.slice 3 (Kd.int .i64)) Kd.bool)) (fun x : S55 => (x.f0, x.f1, x.f2))
theorem k55_open {w : World} {x : S55} {cs : List Value} (h : k55.K w x cs) : ∃ A1 c1, cs = [.int .i64 x.f0, .slice A1 x.f1.length c1, .bool x.f2] ∧ x.f1.length ≤ c1 ∧ (Kd.int .i64).C w A1 x.f1.length x.f1 := by
  obtain ⟨_, _, rfl, rfl, ⟨_, _, rfl, ⟨A1, c1, rfl, l1, g1⟩, rfl⟩⟩ := h
  exact ⟨A1, c1, rfl, l1, g1⟩
theorem k55_mkM (w : World) (base : Nat) (ok : Nat → Prop) (x : S55) {v1 : Value} (g1 : (Kd.int .i64).R 3 w base ok v1 x.f1) : k55.M w base ok x [.int .i64 x.f0, v1, .bool x.f2] := ⟨[.int .i64 x.f0], [v1, .bool x.f2], rfl, rfl, ⟨[v1], [.bool x.f2], rfl, ⟨v1, rfl, g1⟩, rfl⟩⟩
def rd_T55 (xs : List S55) (i : Int) : S55 := xs.getD i.toNat z55
theorem at_T55 {w : World} {A : Option Addr} {n : Nat} {xs : List S55} (h : Kd.C k55 w A n xs) (i : Int) (h0 : 0 ≤ i) (h1 : i < n) : ∃ ad A1 c1, A = some ad ∧ w.cell? (ad.add (i.toNat * 3)) = some (.int .i64 (rd_T55 xs i).f0) ∧ w.cell? ⟨(ad.add (i.toNat * 3)).block, (ad.add (i.toNat * 3)).off + 1, none⟩ = some (.slice A1 (rd_T55 xs i).f1.length c1) ∧ w.cell? ⟨(ad.add (i.toNat * 3)).block, (ad.add (i.toNat * 3)).off + 2, none⟩ = some (.bool (rd_T55 xs i).f2) ∧ (rd_T55 xs i).f1.length ≤ c1 ∧ (Kd.int .i64).C w A1 (rd_T55 xs i).f1.length (rd_T55 xs i).f1 := by
  obtain ⟨ad, c, e, _, hK, hc0⟩ := Kd.C_get h z55 i h0 h1
  have hc : ∀ j u, c[j]? = some u → w.cell? (ad.add (i.toNat * 3 + j)) = some u := hc0
  obtain ⟨A1, c1, rfl, l1, g1⟩ := k55_open hK
  exact ⟨ad, A1, c1, e, hc 0 _ rfl, by rw [← add_field _ _ 1 (by omega)]; exact hc 1 _ rfl, by rw [← add_field _ _ 2 (by omega)]; exact hc 2 _ rfl, l1, g1⟩
structure S43 where
  f0 : Int
  f1 : Int
  f2 : (List S43)
def z43 : S43 := ⟨(0 : Int), (0 : Int), ([] : List S43)⟩
def F43 (d : Kd S43) : Kd S43 := Kd.iso (Kd.pair (Kd.int .i64) (Kd.pair (Kd.int .i64) (Kd.slice 43 d))) (fun x : S43 => (x.f0, x.f1, x.f2))
theorem sub43 : Kd.Sub F43 [43] := Kd.sub_iso _ (Kd.sub_pair (Kd.sub_const _ (by decide)) (Kd.sub_pair (Kd.sub_const _ (by decide)) (Kd.sub_slice 43 (by decide) Kd.sub_id)))
theorem sz43 : ∀ n, (Kd.upto F43 3 [43] n).sz = 3 := Kd.upto_sz (fun _ => rfl)
def k43 : Kd S43 := Kd.fix F43 3 [43] sz43 (Kd.upto_E sub43)
theorem k43_open {w : World} {x : S43} {cs : List Value} (h : k43.K w x cs) : ∃ A2 c2, cs = [.int .i64 x.f0, .int .i64 x.f1, .slice A2 x.f2.length c2] ∧ x.f2.length ≤ c2 ∧ k43.C w A2 x.f2.length x.f2 := by
  obtain ⟨n, h⟩ := h
  cases n with
  | zero => exact h.elim
  | succ n =>
    obtain ⟨_, _, rfl, rfl, ⟨_, _, rfl, rfl, ⟨A2, c2, rfl, l2, g2⟩⟩⟩ := h
    exact ⟨A2, c2, rfl, l2, Kd.fix_C g2⟩
def rd_T43 (xs : List S43) (i : Int) : S43 := xs.getD i.toNat z43
theorem at_T43 {w : World} {A : Option Addr} {n : Nat} {xs : List S43} (h : Kd.C k43 w A n xs) (i : Int) (h0 : 0 ≤ i) (h1 : i < n) : ∃ ad A2 c2, A = some ad ∧ w.cell? (ad.add (i.toNat * 3)) = some (.int .i64 (rd_T43 xs i).f0) ∧ w.cell? ⟨(ad.add (i.toNat * 3)).block, (ad.add (i.toNat * 3)).off + 1, none⟩ = some (.int .i64 (rd_T43 xs i).f1) ∧ w.cell? ⟨(ad.add (i.toNat * 3)).block, (ad.add (i.toNat * 3)).off + 2, none⟩ = some (.slice A2 (rd_T43 xs i).f2.length c2) ∧ (rd_T43 xs i).f2.length ≤ c2 ∧ k43.C w A2 (rd_T43 xs i).f2.length (rd_T43 xs i).f2 := by
  obtain ⟨ad, c, e, _, hK, hc0⟩ := Kd.C_get h z43 i h0 h1
  have hc : ∀ j u, c[j]? = some u → w.cell? (ad.add (i.toNat * 3 + j)) = some u := hc0
  obtain ⟨A2, c2, rfl, l2, g2⟩ := k43_open hK
  exact ⟨ad, A2, c2, e, hc 0 _ rfl, by rw [← add_field _ _ 1 (by omega)]; exact hc 1 _ rfl, by rw [← add_field _ _ 2 (by omega)]; exact hc 2 _ rfl, l2, g2⟩
end Go.Proofs.Ytadabkkkalgehaa.PLi
namespace Go.Proofs.Ytadabkkkalgehaa.PLi
open Go.RowKit Go.Proofs.YtadabkkkalgehaaW.PrintWords Go.Proofs.YtadabkkkalgehaaW.PrintLast Go.Proofs.YtadabkkkalgehaaW.PrintMore
attribute [local go_sem] max2_int min2_int max_two min_two max_three min_three max_four min_four   -- for this text's walks alone
set_option linter.unusedVariables false
set_option linter.unusedSimpArgs false
theorem eqA35 (d : Nat) (w : World) (x0 y0 : Bool) (x1 y1 : Int) :
    (Op.equalIn (d + 2) 35 (.agg #[.bool x0, .int .i64 x1]) (.agg #[.bool y0, .int .i64 y1])).run Try.prog w = .ok (x0 == y0 && (x1 == y1)) w := by
  refine eqA_of Try.underlying35 (by kernel_rfl) ?_
  refine eqf_cons (by rfl) (by go_simp; rfl) (by go_simp; rfl) (by go_simp) ?_
  exact eqf_last (by rfl) (by go_simp; rfl) (by go_simp; rfl) (by go_simp)
end Go.Proofs.Ytadabkkkalgehaa.PLi
namespace Go.Proofs.Ytadabkkkalgehaa.PLi
open Go.RowKit Go.Proofs.YtadabkkkalgehaaW.PrintWords Go.Proofs.YtadabkkkalgehaaW.PrintLast Go.Proofs.YtadabkkkalgehaaW.PrintMore
attribute [local go_sem] max2_int min2_int max_two min_two max_three min_three max_four min_four   -- for this text's walks alone
set_option linter.unusedVariables false
set_option linter.unusedSimpArgs false
def toPr (x : S55) : H.Pr := ⟨x.f0, x.f1, x.f2⟩
def toGr (a b c : Int) (l : List S55) : H.Gr := ⟨a, b, c, l.map toPr⟩
theorem rdI_of {w : World} {A : Option Addr} {n : Nat} {xs : List Int} (h : (Kd.int .i64).C w A n xs) : H.Rd H.eI 1 w w.heap.size A xs := by
  intro i hi
  obtain ⟨h1, h2, h3⟩ := h
  obtain ⟨ad, e, hc⟩ := h3 (by omega)
  obtain ⟨c, _, hc1, hc2⟩ := hc i _ (List.getElem?_eq_getElem hi)
  have hc1' : c = [.int .i64 xs[i]] := hc1
  subst hc1'
  have h0 : w.cell? (ad.add (i * 1)) = some (.int .i64 xs[i]) := hc2 0 _ rfl
  refine ⟨ad, e, ?_, fun j u hu => ?_⟩
  · have := H.cell_lt h0; rwa [H.add_block] at this
  · have hj : j = 0 := by
      rcases j with _ | j
      · rfl
      · simp [H.eI] at hu
    subst hj
    have hu' : u = .int .i64 xs[i] := by simpa [H.eI] using hu.symm
    subst hu'
    have e0 : ∀ x : Addr, x.add 0 = x := fun x => by simp [Addr.add]
    rw [e0]
    exact h0
theorem rdP_of {w : World} {A : Option Addr} {l : List S55} (h : Kd.C k55 w A l.length l) : H.RdP w w.heap.size A (l.map toPr) := by
  intro i hi
  have hi' : i < l.length := by simpa using hi
  obtain ⟨ad, A1, c1, e, c0, k1, k2, hl, hr⟩ := at_T55 h (i : Int) (by omega) (by omega)
  have hx : rd_T55 l (i : Int) = l[i] := by simp [rd_T55, List.getD_eq_getElem?_getD, hi']
  rw [hx] at c0 k1 k2 hl hr
  simp only [Int.toNat_natCast] at c0 k1 k2
  refine ⟨ad, A1, c1, e, ?_, ?_, ?_, ?_, ?_, ?_⟩
  · have := H.cell_lt c0; rwa [H.add_block] at this
  · simpa [toPr] using c0
  · simpa [toPr] using k1
  · simpa [toPr] using k2
  · simpa [toPr] using hl
  · simpa [toPr] using rdI_of hr
theorem grIn_of {w : World} {A : Option Addr} {c : Nat} {x y z : Int} {l : List S55} (h : Kd.C k55 w A l.length l) (hc : l.length ≤ c) : H.GrIn w (toGr x y z l) A c := by
  refine ⟨by simpa [toGr] using hc, by have := Kd.C_max h; simpa [toGr] using this, fun p hp => ?_, rdP_of h⟩
  obtain ⟨i, hi, rfl⟩ := List.getElem_of_mem hp
  have hi' : i < l.length := by simpa [toGr] using hi
  obtain ⟨ad, A1, c1, e, c0, k1, k2, hl, hr⟩ := at_T55 h (i : Int) (by omega) (by omega)
  have hx : rd_T55 l (i : Int) = l[i] := by simp [rd_T55, List.getD_eq_getElem?_getD, hi']
  rw [hx] at hr
  have := Kd.C_max hr
  simpa [toGr, toPr] using this
theorem grV_of (A : Option Addr) (c : Nat) (x y z : Int) (l : List S55) : H.grV (toGr x y z l) A c = .agg #[.int .i64 x, .int .i64 y, .int .i64 z, .slice A l.length c] := by simp [H.grV, toGr]
noncomputable def derive_Derives.f (a0_0 : Int) (a0_1 : Int) (a0_2 : Int) (l0_3 : List (S55)) (a1 : Int) (l2 : List Int) : Option (Bool × Int) := some ((H.derR (toGr a0_0 a0_1 a0_2 l0_3) a1 l2).1, (H.derR (toGr a0_0 a0_1 a0_2 l0_3) a1 l2).2)
theorem derive_Derives.calls (a0_0 : Int) (a0_1 : Int) (a0_2 : Int) (A0_3 : Option Addr) (c0_3 : Nat) (l0_3 : List (S55)) (a1 : Int) (A2 : Option Addr) (c2 : Nat) (l2 : List Int) (r1 : Bool) (r2 : Int) (w : World) (hr0_3 : Kd.C k55 w A0_3 l0_3.length l0_3) (hc0_3 : l0_3.length ≤ c0_3) (hr2 : Kd.C (Kd.int .i64) w A2 l2.length l2) (hc2 : l2.length ≤ c2) (h : derive_Derives.f a0_0 a0_1 a0_2 l0_3 a1 l2 = some (r1, r2)) :
    Calls Try.prog 11 #[.agg #[.int .i64 a0_0, .int .i64 a0_1, .int .i64 a0_2, .slice A0_3 l0_3.length c0_3], .int .i64 a1, .slice A2 l2.length c2] w fun e w' => e = .returned (.tuple #[.bool r1, .int .i64 r2]) ∧ Below w.heap.size w w' := by
  have h' := Option.some.inj h
  simp only [Prod.mk.injEq] at h'
  obtain ⟨rfl, rfl⟩ := h'
  rw [← grV_of]
  exact H.derives_any _ a1 l2 _ _ _ _ w (grIn_of hr0_3 hc0_3) (rdI_of hr2) hc2 (Kd.C_max hr2)
noncomputable def derive_Viable.f (a0_0 : Int) (a0_1 : Int) (a0_2 : Int) (l0_3 : List (S55)) (l1 : List Int) : Option (Bool × Int) := some ((H.viaR (toGr a0_0 a0_1 a0_2 l0_3) l1).1, (H.viaR (toGr a0_0 a0_1 a0_2 l0_3) l1).2)
theorem derive_Viable.calls (a0_0 : Int) (a0_1 : Int) (a0_2 : Int) (A0_3 : Option Addr) (c0_3 : Nat) (l0_3 : List (S55)) (A1 : Option Addr) (c1 : Nat) (l1 : List Int) (r1 : Bool) (r2 : Int) (w : World) (hr0_3 : Kd.C k55 w A0_3 l0_3.length l0_3) (hc0_3 : l0_3.length ≤ c0_3) (hr1 : Kd.C (Kd.int .i64) w A1 l1.length l1) (hc1 : l1.length ≤ c1) (h : derive_Viable.f a0_0 a0_1 a0_2 l0_3 l1 = some (r1, r2)) :
    Calls Try.prog 15 #[.agg #[.int .i64 a0_0, .int .i64 a0_1, .int .i64 a0_2, .slice A0_3 l0_3.length c0_3], .slice A1 l1.length c1] w fun e w' => e = .returned (.tuple #[.bool r1, .int .i64 r2]) ∧ Below w.heap.size w w' := by
  have h' := Option.some.inj h
  simp only [Prod.mk.injEq] at h'
  obtain ⟨rfl, rfl⟩ := h'
  rw [← grV_of]
  exact H.viable_any _ l1 _ _ _ _ w (grIn_of hr0_3 hc0_3) (rdI_of hr1) hc1 (Kd.C_max hr1)
noncomputable def derive_Judge.l0 : Nat → List Int → Int → Int → Int → Int → Int → List (S55) → Option (Bool × Int × Int)
  | 0, _, _, _, _, _, _, _ => none
  | k + 1, x1, x26, x27, x102000, x102001, x102002, x102003 => if x27 < x26 then (if 0 ≤ (wrap64 (x27 + 1)) then (if (wrap64 (x27 + 1)) ≤ (x1.length : Int) then ((derive_Viable.f x102000 x102001 x102002 x102003 (x1.take ((wrap64 (x27 + 1)) : Int).toNat)).bind fun bt106 => (if bt106.1 = true then (derive_Judge.l0 k x1 x26 (wrap64 (x27 + 1)) x102000 x102001 x102002 x102003) else (some (false, x27, 0)))) else (none)) else (none)) else (some (false, (x1.length : Int), 0))
noncomputable def derive_Judge.f (k : Nat) (a0_0 : Int) (a0_1 : Int) (a0_2 : Int) (l0_3 : List (S55)) (l1 : List Int) : Option (Bool × Int × Int) := (derive_Derives.f a0_0 a0_1 a0_2 l0_3 a0_2 l1).bind fun bt103 => (if bt103.2 = 0 then (if bt103.1 = true then (some (true, 0, 0)) else (derive_Judge.l0 k l1 (l1.length : Int) 0 a0_0 a0_1 a0_2 l0_3)) else (some (false, 0, bt103.2)))
def derive_Judge.T9 : Bool × List (List Nat × List Nat) := (true, [([], []), ([], []), ([], []), ([2], [2]), ([1, 3], [1, 3]), ([0, 4], [0, 4]), ([5], [5]), ([6], [6]), ([6], [6]), ([7, 5, 0, 1, 2, 3, 4, 5, 6, 7], [7]), ([8, 9, 0, 1, 2, 3, 4, 5, 6, 7, 8, 9], [8])])
def derive_Judge.B9 : List Nat := [0, 0, 0, 4, 14, 31, 63, 127, 127, 255, 1023]
theorem derive_Judge.tab9 : rtab .any (opsOf Try.f17 9) = derive_Judge.T9 := by kernel_rfl
theorem derive_Judge.bits9 : waitsOk derive_Judge.T9.2 derive_Judge.B9 = true := by kernel_rfl
set_option maxHeartbeats 8000000 in
set_option maxRecDepth 100000 in
theorem derive_Judge.calls (k : Nat) (a0_0 : Int) (a0_1 : Int) (a0_2 : Int) (A0_3 : Option Addr) (c0_3 : Nat) (l0_3 : List (S55)) (A1 : Option Addr) (c1 : Nat) (l1 : List Int) (r1 : Bool) (r2 : Int) (r3 : Int) (w : World) (hr0_3 : Kd.C k55 w A0_3 l0_3.length l0_3) (hc0_3 : l0_3.length ≤ c0_3) (hr1 : Kd.C (Kd.int .i64) w A1 l1.length l1) (hc1 : l1.length ≤ c1) (h : derive_Judge.f k a0_0 a0_1 a0_2 l0_3 l1 = some (r1, r2, r3)) :
    Calls Try.prog 17 #[.agg #[.int .i64 a0_0, .int .i64 a0_1, .int .i64 a0_2, .slice A0_3 l0_3.length c0_3], .slice A1 l1.length c1] w fun e w' => e = .returned (.tuple #[.agg #[.bool r1, .int .i64 r2], .int .i64 r3]) ∧ Below w.heap.size w w' := by
 have hu24 := Try.underlying24
 have hu35 := Try.underlying35
 have HR0_3 := Aside0.mk hr0_3
 have HC0_3 := Aside0.mk hc0_3
 clear hr0_3 hc0_3
 have HR1 := Aside0.mk hr1
 have HC1 := Aside0.mk hc1
 clear hr1 hc1
 have HB := Aside0.mk (Below.refl w.heap.size w)
 have H : ((derive_Derives.f a0_0 a0_1 a0_2 l0_3 a0_2 l1).bind fun bt103 => (if bt103.2 = 0 then (if bt103.1 = true then (some (true, 0, 0)) else (derive_Judge.l0 k l1 (l1.length : Int) 0 a0_0 a0_1 a0_2 l0_3)) else (some (false, 0, bt103.2)))) = some (r1, r2, r3) := h
 clear h
 replace H := Option.bind_eq_some_iff.mp H
 obtain ⟨⟨t103, t104⟩, A30, H⟩ := H
 replace H : (if t104 = 0 then (if t103 = true then (some (true, 0, 0)) else (derive_Judge.l0 k l1 (l1.length : Int) 0 a0_0 a0_1 a0_2 l0_3)) else (some (false, 0, t104))) = some (r1, r2, r3) := H
 have A3 := Aside0.mk A30
 clear A30
 by_cases c4 : t104 = 0
 rotate_left
 · rw [if_neg c4] at H
   have c4b0 : (t104 == 0) = false := beq_eq_false_iff_ne.mpr c4
   have c4b1 : (t104 != 0) = true := bne_iff_ne.mpr c4
   as_aux_lemma =>
    simp only [Option.some.injEq, Prod.mk.injEq] at H
    obtain ⟨rfl, rfl, rfl⟩ := H
    go_enter Try.func17, Try.ntmps17
    go_wp2_with (first | ((with_reducible refine gate_dst (N := 2) rfl ?_); refine box_event ?hg (N := 2) ?hd (cs := #[.int .i64 a0_0, .int .i64 a0_1, .int .i64 a0_2, .slice A0_3 l0_3.length c0_3]) (t := 24) ?hr ?_; (case hd => rfl); (case hg => rfl); (case hr => first | (go_simp; done) | (go_simp; rfl)); intro gb101 hg w33 hbox hb; have n0_ := Aside0.mk (below_step (by repeat (first | (with_reducible first | exact HB.out | apply below_alloc | apply pw_below_drewN | apply below_drew1) | exact HB.out)) hb); have n1_ := Aside0.mk (hbox); have n2_ := Aside0.mk ((by rw [hg]; exact (below_size (by repeat (first | (with_reducible first | exact HB.out | apply below_alloc | apply pw_below_drewN | apply below_drew1) | exact HB.out))) : w.heap.size ≤ gb101)); have n3_ := Aside0.mk ((by rw [hg]; exact (below_size (by repeat (first | (with_reducible first | exact HB.out | apply below_alloc | apply pw_below_drewN | apply below_drew1) | exact HB.out))) : w.heap.size ≤ gb101)); clear HB; have HB := n0_; have BK101 := n1_; have GW101 := n2_; have GE101 := n3_; clear n0_ n1_ n2_ n3_; clear hb hbox hg) | ((with_reducible refine gate_dst (N := 4) rfl ?_); refine box_event ?hg (N := 4) ?hd (cs := #[.bool false, .int .i64 0]) (t := 35) ?hr ?_; (case hd => rfl); (case hg => rfl); (case hr => first | (go_simp; done) | (go_simp; rfl)); intro gb102 hg w34 hbox hb; have n0_ := Aside0.mk (blk_below (g := gb101) (o := .cells #[.int .i64 a0_0, .int .i64 a0_1, .int .i64 a0_2, .slice A0_3 l0_3.length c0_3] 24 (0, 0)) (by (with_reducible repeat (first | refine blk_drewN ?_ _ | refine blk_drew ?_ | refine blk_alloc ?_ _)); exact BK101.out) hb); have n1_ := Aside0.mk (below_step (by repeat (first | (with_reducible first | exact HB.out | apply below_alloc | apply pw_below_drewN | apply below_drew1 | refine below_set ?_ GE101.out) | exact HB.out)) hb); have n2_ := Aside0.mk (hbox); have n3_ := Aside0.mk ((by rw [hg]; exact (below_size (by repeat (first | (with_reducible first | exact HB.out | apply below_alloc | apply pw_below_drewN | apply below_drew1 | refine below_set ?_ GE101.out) | exact HB.out))) : w.heap.size ≤ gb102)); have n4_ := Aside0.mk ((by rw [hg]; exact (below_size (by repeat (first | (with_reducible first | exact HB.out | apply below_alloc | apply pw_below_drewN | apply below_drew1 | refine below_set ?_ GE101.out) | exact HB.out))) : w.heap.size ≤ gb102)); have n5_ := Aside0.mk ((by rw [hg]; exact Nat.ne_of_lt (blk_lt (g := gb101) (o := .cells #[.int .i64 a0_0, .int .i64 a0_1, .int .i64 a0_2, .slice A0_3 l0_3.length c0_3] 24 (0, 0)) (by (with_reducible repeat (first | refine blk_drewN ?_ _ | refine blk_drew ?_ | refine blk_alloc ?_ _)); exact BK101.out)) : gb101 ≠ gb102)); have n6_ := Aside0.mk ((by rw [hg]; exact Nat.ne_of_gt (blk_lt (g := gb101) (o := .cells #[.int .i64 a0_0, .int .i64 a0_1, .int .i64 a0_2, .slice A0_3 l0_3.length c0_3] 24 (0, 0)) (by (with_reducible repeat (first | refine blk_drewN ?_ _ | refine blk_drew ?_ | refine blk_alloc ?_ _)); exact BK101.out)) : gb102 ≠ gb101)); clear BK101; clear HB; have BK101 := n0_; have HB := n1_; have BK102 := n2_; have GW102 := n3_; have GE102 := n4_; have NB101_102 := n5_; have NB102_101 := n6_; clear n0_ n1_ n2_ n3_ n4_ n5_ n6_; clear hb hbox hg; have hnb35 := NB101_102.out; have hnc35 := NB102_101.out; have hcz36_0 : w34.cell? ⟨gb101, 0, none⟩ = some (.int .i64 a0_0) := (blk_cell BK101.out 0).trans rfl; have hcz36_1 : w34.cell? ⟨gb101, 1, none⟩ = some (.int .i64 a0_1) := (blk_cell BK101.out 1).trans rfl; have hcz36_2 : w34.cell? ⟨gb101, 2, none⟩ = some (.int .i64 a0_2) := (blk_cell BK101.out 2).trans rfl; have hcz36_3 : w34.cell? ⟨gb101, 3, none⟩ = some (.slice A0_3 l0_3.length c0_3) := (blk_cell BK101.out 3).trans rfl; have hfz36_0 := blk_frozen BK101.out 0; have hfz36_1 := blk_frozen BK101.out 1; have hfz36_2 := blk_frozen BK101.out 2; have hfz36_3 := blk_frozen BK101.out 3) | ((with_reducible refine gate_callee (f := 11) rfl ?_); refine goesL_ (some 16) rfl rfl Try.func11 (by kernel_rfl) rfl #[.agg #[.int .i64 a0_0, .int .i64 a0_1, .int .i64 a0_2, .slice A0_3 l0_3.length c0_3], .int .i64 a0_2, .slice A1 l1.length c1] rfl (by (try simp only [List.map_toArray, List.map_cons, List.map_nil]); first | done | rfl | (simp only [List.length_drop, List.length_take]; rfl)) ?_; (with_reducible refine (derive_Derives.calls a0_0 a0_1 a0_2 _ _ l0_3 a0_2 _ _ l1 t103 t104 _ ?side1 ?side2 ?side3 ?side4 A3.out).mono ?_); (case side1 => repeat (first | exact (Kd.C_below HR0_3.out HB.out) | (with_reducible refine Kd.C_alloc ?_ _) | (with_reducible refine Kd.C_drewN ?_ _) | (with_reducible refine Kd.C_drew ?_))); (case side2 => exact HC0_3.out); (case side3 => repeat (first | exact (Kd.C_below HR1.out HB.out) | (with_reducible refine Kd.C_alloc ?_ _) | (with_reducible refine Kd.C_drewN ?_ _) | (with_reducible refine Kd.C_drew ?_))); (case side4 => exact HC1.out); rintro e w37 ⟨rfl, hb⟩; refine ⟨_, rfl, ?_⟩; have n0_ := Aside0.mk (blk_below (g := gb101) (o := .cells #[.int .i64 a0_0, .int .i64 a0_1, .int .i64 a0_2, .slice A0_3 l0_3.length c0_3] 24 (0, 0)) (by (with_reducible repeat (first | refine blk_drewN ?_ _ | refine blk_drew ?_ | refine blk_alloc ?_ _)); exact BK101.out) hb); have n1_ := Aside0.mk (blk_below (g := gb102) (o := .cells #[.bool false, .int .i64 0] 35 (0, 0)) (by (with_reducible repeat (first | refine blk_drewN ?_ _ | refine blk_drew ?_ | refine blk_alloc ?_ _)); exact BK102.out) hb); have n2_ := Aside0.mk (below_step (by repeat (first | (with_reducible first | exact HB.out | apply below_alloc | apply pw_below_drewN | apply below_drew1 | refine below_set ?_ GE101.out | refine below_set ?_ GE102.out) | exact HB.out)) hb); clear BK101; clear BK102; clear HB; have BK101 := n0_; have BK102 := n1_; have HB := n2_; clear n0_ n1_ n2_; (try clear hb); (try clear hb2); (try clear hk); (try clear hi); have hcz38_0 : w37.cell? ⟨gb102, 0, none⟩ = some (.bool false) := (blk_cell BK102.out 0).trans rfl; have hcz38_1 : w37.cell? ⟨gb102, 1, none⟩ = some (.int .i64 0) := (blk_cell BK102.out 1).trans rfl; have hfz38_0 := blk_frozen BK102.out 0; have hfz38_1 := blk_frozen BK102.out 1))
    refine bodyPost_ret (results_ct rfl _ _ gb102 35 #[.bool false, .int .i64 0] (0, 0) _ rfl (by (with_reducible repeat (first | refine blk_drewN ?_ _ | refine blk_drew ?_ | refine blk_alloc ?_ _)); refine blk_put (cs := #[.bool false, .int .i64 0]) ?_ 1 _ rfl; (with_reducible repeat (first | refine blk_drewN ?_ _ | refine blk_drew ?_ | refine blk_alloc ?_ _)); refine blk_put (cs := #[.bool false, .int .i64 0]) ?_ 0 _ rfl; (with_reducible repeat (first | refine blk_drewN ?_ _ | refine blk_drew ?_ | refine blk_alloc ?_ _)); exact BK102.out) Try.underlying35 rfl (by kernel_rfl)) rfl ?_
    exact ⟨by first | rfl | (simp [errW_none, errW_some] <;> rfl) | (simp [*, errW_none, errW_some] <;> rfl), by repeat (first | (with_reducible first | exact HB.out | apply below_alloc | apply pw_below_drewN | apply below_drew1 | refine below_set ?_ GE101.out | refine below_set ?_ GE102.out) | exact HB.out)⟩
 rw [if_pos c4] at H
 have c4b0 : (t104 == 0) = true := beq_iff_eq.mpr c4
 have c4b1 : (t104 != 0) = false := bne_eq_false_iff_eq.mpr c4
 clear c4
 by_cases c5 : t103 = true
 · subst c5
   have H1 : (some (true, 0, 0)) = some (r1, r2, r3) := by rw [if_pos rfl] at H; exact H
   clear H
   have H := H1
   clear H1
   as_aux_lemma =>
    simp only [Option.some.injEq, Prod.mk.injEq] at H
    obtain ⟨rfl, rfl, rfl⟩ := H
    go_enter Try.func17, Try.ntmps17
    go_wp2_with (first | ((with_reducible refine gate_dst (N := 2) rfl ?_); refine box_event ?hg (N := 2) ?hd (cs := #[.int .i64 a0_0, .int .i64 a0_1, .int .i64 a0_2, .slice A0_3 l0_3.length c0_3]) (t := 24) ?hr ?_; (case hd => rfl); (case hg => rfl); (case hr => first | (go_simp; done) | (go_simp; rfl)); intro gb101 hg w6 hbox hb; have n0_ := Aside0.mk (below_step (by repeat (first | (with_reducible first | exact HB.out | apply below_alloc | apply pw_below_drewN | apply below_drew1) | exact HB.out)) hb); have n1_ := Aside0.mk (hbox); have n2_ := Aside0.mk ((by rw [hg]; exact (below_size (by repeat (first | (with_reducible first | exact HB.out | apply below_alloc | apply pw_below_drewN | apply below_drew1) | exact HB.out))) : w.heap.size ≤ gb101)); have n3_ := Aside0.mk ((by rw [hg]; exact (below_size (by repeat (first | (with_reducible first | exact HB.out | apply below_alloc | apply pw_below_drewN | apply below_drew1) | exact HB.out))) : w.heap.size ≤ gb101)); clear HB; have HB := n0_; have BK101 := n1_; have GW101 := n2_; have GE101 := n3_; clear n0_ n1_ n2_ n3_; clear hb hbox hg) | ((with_reducible refine gate_dst (N := 4) rfl ?_); refine box_event ?hg (N := 4) ?hd (cs := #[.bool false, .int .i64 0]) (t := 35) ?hr ?_; (case hd => rfl); (case hg => rfl); (case hr => first | (go_simp; done) | (go_simp; rfl)); intro gb102 hg w7 hbox hb; have n0_ := Aside0.mk (blk_below (g := gb101) (o := .cells #[.int .i64 a0_0, .int .i64 a0_1, .int .i64 a0_2, .slice A0_3 l0_3.length c0_3] 24 (0, 0)) (by (with_reducible repeat (first | refine blk_drewN ?_ _ | refine blk_drew ?_ | refine blk_alloc ?_ _)); exact BK101.out) hb); have n1_ := Aside0.mk (below_step (by repeat (first | (with_reducible first | exact HB.out | apply below_alloc | apply pw_below_drewN | apply below_drew1 | refine below_set ?_ GE101.out) | exact HB.out)) hb); have n2_ := Aside0.mk (hbox); have n3_ := Aside0.mk ((by rw [hg]; exact (below_size (by repeat (first | (with_reducible first | exact HB.out | apply below_alloc | apply pw_below_drewN | apply below_drew1 | refine below_set ?_ GE101.out) | exact HB.out))) : w.heap.size ≤ gb102)); have n4_ := Aside0.mk ((by rw [hg]; exact (below_size (by repeat (first | (with_reducible first | exact HB.out | apply below_alloc | apply pw_below_drewN | apply below_drew1 | refine below_set ?_ GE101.out) | exact HB.out))) : w.heap.size ≤ gb102)); have n5_ := Aside0.mk ((by rw [hg]; exact Nat.ne_of_lt (blk_lt (g := gb101) (o := .cells #[.int .i64 a0_0, .int .i64 a0_1, .int .i64 a0_2, .slice A0_3 l0_3.length c0_3] 24 (0, 0)) (by (with_reducible repeat (first | refine blk_drewN ?_ _ | refine blk_drew ?_ | refine blk_alloc ?_ _)); exact BK101.out)) : gb101 ≠ gb102)); have n6_ := Aside0.mk ((by rw [hg]; exact Nat.ne_of_gt (blk_lt (g := gb101) (o := .cells #[.int .i64 a0_0, .int .i64 a0_1, .int .i64 a0_2, .slice A0_3 l0_3.length c0_3] 24 (0, 0)) (by (with_reducible repeat (first | refine blk_drewN ?_ _ | refine blk_drew ?_ | refine blk_alloc ?_ _)); exact BK101.out)) : gb102 ≠ gb101)); clear BK101; clear HB; have BK101 := n0_; have HB := n1_; have BK102 := n2_; have GW102 := n3_; have GE102 := n4_; have NB101_102 := n5_; have NB102_101 := n6_; clear n0_ n1_ n2_ n3_ n4_ n5_ n6_; clear hb hbox hg; have hnb8 := NB101_102.out; have hnc8 := NB102_101.out; have hcz9_0 : w7.cell? ⟨gb101, 0, none⟩ = some (.int .i64 a0_0) := (blk_cell BK101.out 0).trans rfl; have hcz9_1 : w7.cell? ⟨gb101, 1, none⟩ = some (.int .i64 a0_1) := (blk_cell BK101.out 1).trans rfl; have hcz9_2 : w7.cell? ⟨gb101, 2, none⟩ = some (.int .i64 a0_2) := (blk_cell BK101.out 2).trans rfl; have hcz9_3 : w7.cell? ⟨gb101, 3, none⟩ = some (.slice A0_3 l0_3.length c0_3) := (blk_cell BK101.out 3).trans rfl; have hfz9_0 := blk_frozen BK101.out 0; have hfz9_1 := blk_frozen BK101.out 1; have hfz9_2 := blk_frozen BK101.out 2; have hfz9_3 := blk_frozen BK101.out 3) | ((with_reducible refine gate_callee (f := 11) rfl ?_); refine goesL_ (some 16) rfl rfl Try.func11 (by kernel_rfl) rfl #[.agg #[.int .i64 a0_0, .int .i64 a0_1, .int .i64 a0_2, .slice A0_3 l0_3.length c0_3], .int .i64 a0_2, .slice A1 l1.length c1] rfl (by (try simp only [List.map_toArray, List.map_cons, List.map_nil]); first | done | rfl | (simp only [List.length_drop, List.length_take]; rfl)) ?_; (with_reducible refine (derive_Derives.calls a0_0 a0_1 a0_2 _ _ l0_3 a0_2 _ _ l1 true t104 _ ?side1 ?side2 ?side3 ?side4 A3.out).mono ?_); (case side1 => repeat (first | exact (Kd.C_below HR0_3.out HB.out) | (with_reducible refine Kd.C_alloc ?_ _) | (with_reducible refine Kd.C_drewN ?_ _) | (with_reducible refine Kd.C_drew ?_))); (case side2 => exact HC0_3.out); (case side3 => repeat (first | exact (Kd.C_below HR1.out HB.out) | (with_reducible refine Kd.C_alloc ?_ _) | (with_reducible refine Kd.C_drewN ?_ _) | (with_reducible refine Kd.C_drew ?_))); (case side4 => exact HC1.out); rintro e w10 ⟨rfl, hb⟩; refine ⟨_, rfl, ?_⟩; have n0_ := Aside0.mk (blk_below (g := gb101) (o := .cells #[.int .i64 a0_0, .int .i64 a0_1, .int .i64 a0_2, .slice A0_3 l0_3.length c0_3] 24 (0, 0)) (by (with_reducible repeat (first | refine blk_drewN ?_ _ | refine blk_drew ?_ | refine blk_alloc ?_ _)); exact BK101.out) hb); have n1_ := Aside0.mk (blk_below (g := gb102) (o := .cells #[.bool false, .int .i64 0] 35 (0, 0)) (by (with_reducible repeat (first | refine blk_drewN ?_ _ | refine blk_drew ?_ | refine blk_alloc ?_ _)); exact BK102.out) hb); have n2_ := Aside0.mk (below_step (by repeat (first | (with_reducible first | exact HB.out | apply below_alloc | apply pw_below_drewN | apply below_drew1 | refine below_set ?_ GE101.out | refine below_set ?_ GE102.out) | exact HB.out)) hb); clear BK101; clear BK102; clear HB; have BK101 := n0_; have BK102 := n1_; have HB := n2_; clear n0_ n1_ n2_; (try clear hb); (try clear hb2); (try clear hk); (try clear hi); have hcz11_0 : w10.cell? ⟨gb102, 0, none⟩ = some (.bool false) := (blk_cell BK102.out 0).trans rfl; have hcz11_1 : w10.cell? ⟨gb102, 1, none⟩ = some (.int .i64 0) := (blk_cell BK102.out 1).trans rfl; have hfz11_0 := blk_frozen BK102.out 0; have hfz11_1 := blk_frozen BK102.out 1))
    refine bodyPost_ret (results_ct rfl _ _ gb102 35 #[.bool true, .int .i64 0] (0, 0) _ rfl (by (with_reducible repeat (first | refine blk_drewN ?_ _ | refine blk_drew ?_ | refine blk_alloc ?_ _)); refine blk_put (cs := #[.bool true, .int .i64 0]) ?_ 1 _ rfl; (with_reducible repeat (first | refine blk_drewN ?_ _ | refine blk_drew ?_ | refine blk_alloc ?_ _)); refine blk_put (cs := #[.bool false, .int .i64 0]) ?_ 0 _ rfl; (with_reducible repeat (first | refine blk_drewN ?_ _ | refine blk_drew ?_ | refine blk_alloc ?_ _)); exact BK102.out) Try.underlying35 rfl (by kernel_rfl)) rfl ?_
    exact ⟨by first | rfl | (simp [errW_none, errW_some] <;> rfl) | (simp [*, errW_none, errW_some] <;> rfl), by repeat (first | (with_reducible first | exact HB.out | apply below_alloc | apply pw_below_drewN | apply below_drew1 | refine below_set ?_ GE101.out | refine below_set ?_ GE102.out) | exact HB.out)⟩
 replace c5 := Bool.eq_false_iff.mpr c5
 subst c5
 have H1 : (derive_Judge.l0 k l1 (l1.length : Int) 0 a0_0 a0_1 a0_2 l0_3) = some (r1, r2, r3) := by rw [if_neg (show ¬ (false = true) by decide)] at H; exact H
 clear H
 have H := H1
 clear H1
 have H' := Aside0.mk H
 clear H
 go_enter Try.func17, Try.ntmps17
 go_wp2_with (first | ((with_reducible refine gate_dst (N := 2) rfl ?_); refine box_event ?hg (N := 2) ?hd (cs := #[.int .i64 a0_0, .int .i64 a0_1, .int .i64 a0_2, .slice A0_3 l0_3.length c0_3]) (t := 24) ?hr ?_; (case hd => rfl); (case hg => rfl); (case hr => first | (go_simp; done) | (go_simp; rfl)); intro gb101 hg w12 hbox hb; have n0_ := Aside0.mk (below_step (by repeat (first | (with_reducible first | exact HB.out | apply below_alloc | apply pw_below_drewN | apply below_drew1) | exact HB.out)) hb); have n1_ := Aside0.mk (hbox); have n2_ := Aside0.mk ((by rw [hg]; exact (below_size (by repeat (first | (with_reducible first | exact HB.out | apply below_alloc | apply pw_below_drewN | apply below_drew1) | exact HB.out))) : w.heap.size ≤ gb101)); have n3_ := Aside0.mk ((by rw [hg]; exact (below_size (by repeat (first | (with_reducible first | exact HB.out | apply below_alloc | apply pw_below_drewN | apply below_drew1) | exact HB.out))) : w.heap.size ≤ gb101)); clear HB; have HB := n0_; have BK101 := n1_; have GW101 := n2_; have GE101 := n3_; clear n0_ n1_ n2_ n3_; clear hb hbox hg) | ((with_reducible refine gate_dst (N := 4) rfl ?_); refine box_event ?hg (N := 4) ?hd (cs := #[.bool false, .int .i64 0]) (t := 35) ?hr ?_; (case hd => rfl); (case hg => rfl); (case hr => first | (go_simp; done) | (go_simp; rfl)); intro gb102 hg w13 hbox hb; have n0_ := Aside0.mk (blk_below (g := gb101) (o := .cells #[.int .i64 a0_0, .int .i64 a0_1, .int .i64 a0_2, .slice A0_3 l0_3.length c0_3] 24 (0, 0)) (by (with_reducible repeat (first | refine blk_drewN ?_ _ | refine blk_drew ?_ | refine blk_alloc ?_ _)); exact BK101.out) hb); have n1_ := Aside0.mk (below_step (by repeat (first | (with_reducible first | exact HB.out | apply below_alloc | apply pw_below_drewN | apply below_drew1 | refine below_set ?_ GE101.out) | exact HB.out)) hb); have n2_ := Aside0.mk (hbox); have n3_ := Aside0.mk ((by rw [hg]; exact (below_size (by repeat (first | (with_reducible first | exact HB.out | apply below_alloc | apply pw_below_drewN | apply below_drew1 | refine below_set ?_ GE101.out) | exact HB.out))) : w.heap.size ≤ gb102)); have n4_ := Aside0.mk ((by rw [hg]; exact (below_size (by repeat (first | (with_reducible first | exact HB.out | apply below_alloc | apply pw_below_drewN | apply below_drew1 | refine below_set ?_ GE101.out) | exact HB.out))) : w.heap.size ≤ gb102)); have n5_ := Aside0.mk ((by rw [hg]; exact Nat.ne_of_lt (blk_lt (g := gb101) (o := .cells #[.int .i64 a0_0, .int .i64 a0_1, .int .i64 a0_2, .slice A0_3 l0_3.length c0_3] 24 (0, 0)) (by (with_reducible repeat (first | refine blk_drewN ?_ _ | refine blk_drew ?_ | refine blk_alloc ?_ _)); exact BK101.out)) : gb101 ≠ gb102)); have n6_ := Aside0.mk ((by rw [hg]; exact Nat.ne_of_gt (blk_lt (g := gb101) (o := .cells #[.int .i64 a0_0, .int .i64 a0_1, .int .i64 a0_2, .slice A0_3 l0_3.length c0_3] 24 (0, 0)) (by (with_reducible repeat (first | refine blk_drewN ?_ _ | refine blk_drew ?_ | refine blk_alloc ?_ _)); exact BK101.out)) : gb102 ≠ gb101)); clear BK101; clear HB; have BK101 := n0_; have HB := n1_; have BK102 := n2_; have GW102 := n3_; have GE102 := n4_; have NB101_102 := n5_; have NB102_101 := n6_; clear n0_ n1_ n2_ n3_ n4_ n5_ n6_; clear hb hbox hg; have hnb14 := NB101_102.out; have hnc14 := NB102_101.out; have hcz15_0 : w13.cell? ⟨gb101, 0, none⟩ = some (.int .i64 a0_0) := (blk_cell BK101.out 0).trans rfl; have hcz15_1 : w13.cell? ⟨gb101, 1, none⟩ = some (.int .i64 a0_1) := (blk_cell BK101.out 1).trans rfl; have hcz15_2 : w13.cell? ⟨gb101, 2, none⟩ = some (.int .i64 a0_2) := (blk_cell BK101.out 2).trans rfl; have hcz15_3 : w13.cell? ⟨gb101, 3, none⟩ = some (.slice A0_3 l0_3.length c0_3) := (blk_cell BK101.out 3).trans rfl; have hfz15_0 := blk_frozen BK101.out 0; have hfz15_1 := blk_frozen BK101.out 1; have hfz15_2 := blk_frozen BK101.out 2; have hfz15_3 := blk_frozen BK101.out 3) | ((with_reducible refine gate_callee (f := 11) rfl ?_); refine goesL_ (some 16) rfl rfl Try.func11 (by kernel_rfl) rfl #[.agg #[.int .i64 a0_0, .int .i64 a0_1, .int .i64 a0_2, .slice A0_3 l0_3.length c0_3], .int .i64 a0_2, .slice A1 l1.length c1] rfl (by (try simp only [List.map_toArray, List.map_cons, List.map_nil]); first | done | rfl | (simp only [List.length_drop, List.length_take]; rfl)) ?_; (with_reducible refine (derive_Derives.calls a0_0 a0_1 a0_2 _ _ l0_3 a0_2 _ _ l1 false t104 _ ?side1 ?side2 ?side3 ?side4 A3.out).mono ?_); (case side1 => repeat (first | exact (Kd.C_below HR0_3.out HB.out) | (with_reducible refine Kd.C_alloc ?_ _) | (with_reducible refine Kd.C_drewN ?_ _) | (with_reducible refine Kd.C_drew ?_))); (case side2 => exact HC0_3.out); (case side3 => repeat (first | exact (Kd.C_below HR1.out HB.out) | (with_reducible refine Kd.C_alloc ?_ _) | (with_reducible refine Kd.C_drewN ?_ _) | (with_reducible refine Kd.C_drew ?_))); (case side4 => exact HC1.out); rintro e w16 ⟨rfl, hb⟩; refine ⟨_, rfl, ?_⟩; have n0_ := Aside0.mk (blk_below (g := gb101) (o := .cells #[.int .i64 a0_0, .int .i64 a0_1, .int .i64 a0_2, .slice A0_3 l0_3.length c0_3] 24 (0, 0)) (by (with_reducible repeat (first | refine blk_drewN ?_ _ | refine blk_drew ?_ | refine blk_alloc ?_ _)); exact BK101.out) hb); have n1_ := Aside0.mk (blk_below (g := gb102) (o := .cells #[.bool false, .int .i64 0] 35 (0, 0)) (by (with_reducible repeat (first | refine blk_drewN ?_ _ | refine blk_drew ?_ | refine blk_alloc ?_ _)); exact BK102.out) hb); have n2_ := Aside0.mk (below_step (by repeat (first | (with_reducible first | exact HB.out | apply below_alloc | apply pw_below_drewN | apply below_drew1 | refine below_set ?_ GE101.out | refine below_set ?_ GE102.out) | exact HB.out)) hb); clear BK101; clear BK102; clear HB; have BK101 := n0_; have BK102 := n1_; have HB := n2_; clear n0_ n1_ n2_; (try clear hb); (try clear hb2); (try clear hk); (try clear hi)))
 go_loopg [27] k (fun kq v27 w' => ∃ (x27_1 : Int) (x103000_1 : Bool) (x103001_1 : Int), v27 = .int .i64 x27_1 ∧ Aside0 (derive_Judge.l0 kq l1 (l1.length : Int) x27_1 a0_0 a0_1 a0_2 l0_3 = some (r1, r2, r3)) ∧ Aside0 (kq ≤ k) ∧ Aside0 (w'.heap[gb101]? = some (.cells #[.int .i64 a0_0, .int .i64 a0_1, .int .i64 a0_2, (.slice A0_3 l0_3.length c0_3)] 24 (0, 0))) ∧ Aside0 (w'.heap[gb102]? = some (.cells #[.bool x103000_1, .int .i64 x103001_1] 35 (0, 0))) ∧ Aside0 (Below w.heap.size w w'))
 case atStart => exact ⟨(0), (false), (0), (by first | rfl | (simp; done) | (simp [*]; done)), H', ⟨Nat.le_refl _⟩, ⟨by (with_reducible repeat (first | refine blk_drewN ?_ _ | refine blk_drew ?_ | refine blk_alloc ?_ _)); exact BK101.out⟩, ⟨by (with_reducible repeat (first | refine blk_drewN ?_ _ | refine blk_drew ?_ | refine blk_alloc ?_ _)); exact BK102.out⟩, ⟨by repeat (first | (with_reducible first | exact HB.out | apply below_alloc | apply pw_below_drewN | apply below_drew1 | refine below_set ?_ GE101.out | refine below_set ?_ GE102.out) | exact HB.out)⟩⟩
 case round =>
  as_aux_lemma =>
   clear H'
   try clear c1
   try clear p2
   try clear c4
   try clear c4b0
   try clear c4b1
   try clear c5
   try clear c8
   try clear c11
   try clear c14
   try clear hcz11_0
   try clear hcz11_1
   try clear hcz15_0
   try clear hcz15_1
   try clear hcz15_2
   try clear hcz15_3
   try clear hcz9_0
   try clear hcz9_1
   try clear hcz9_2
   try clear hcz9_3
   try clear hfz11_0
   try clear hfz11_1
   try clear hfz15_0
   try clear hfz15_1
   try clear hfz15_2
   try clear hfz15_3
   try clear hfz9_0
   try clear hfz9_1
   try clear hfz9_2
   try clear hfz9_3
   obtain ⟨x27_1, x103000_1, x103001_1, rfl, HA, HK1, BK101, BK102, HB⟩ := hrel
   cases gk with
   | zero => exact absurd HA.out (by simp [derive_Judge.l0])
   | succ k1 =>
    have H := HA.out
    clear HA
    simp only [derive_Judge.l0] at H
    by_cases c17 : x27_1 < (l1.length : Int)
    rotate_left
    · rw [if_neg c17] at H
      have c17b0 : decide (x27_1 < (l1.length : Int)) = false := decide_eq_false c17
      clear c17
      as_aux_lemma =>
       simp only [Option.some.injEq, Prod.mk.injEq] at H
       obtain ⟨rfl, rfl, rfl⟩ := H
       have hnb31 := NB102_101.out
       have hnc31 := NB101_102.out
       have hcz32_0 : wr.cell? ⟨gb102, 0, none⟩ = some (.bool x103000_1) := (blk_cell BK102.out 0).trans rfl
       have hcz32_1 : wr.cell? ⟨gb102, 1, none⟩ = some (.int .i64 x103001_1) := (blk_cell BK102.out 1).trans rfl
       have hfz32_0 := blk_frozen BK102.out 0
       have hfz32_1 := blk_frozen BK102.out 1
       go_wp2
       refine bodyPost_ret (results_ct rfl _ _ gb102 35 #[.bool false, .int .i64 (l1.length : Int)] (0, 0) _ rfl (by (with_reducible repeat (first | refine blk_drewN ?_ _ | refine blk_drew ?_ | refine blk_alloc ?_ _)); refine blk_put (cs := #[.bool false, .int .i64 x103001_1]) ?_ 1 _ rfl; (with_reducible repeat (first | refine blk_drewN ?_ _ | refine blk_drew ?_ | refine blk_alloc ?_ _)); refine blk_put (cs := #[.bool x103000_1, .int .i64 x103001_1]) ?_ 0 _ rfl; (with_reducible repeat (first | refine blk_drewN ?_ _ | refine blk_drew ?_ | refine blk_alloc ?_ _)); exact BK102.out) Try.underlying35 rfl (by kernel_rfl)) rfl ?_
       exact ⟨by first | rfl | (simp [errW_none, errW_some] <;> rfl) | (simp [*, errW_none, errW_some] <;> rfl), by repeat (first | (with_reducible first | exact HB.out | apply below_alloc | apply pw_below_drewN | apply below_drew1 | refine below_set ?_ GE101.out | refine below_set ?_ GE102.out) | exact HB.out)⟩
    rw [if_pos c17] at H
    have c17b0 : decide (x27_1 < (l1.length : Int)) = true := decide_eq_true c17
    clear c17
    obtain ⟨ji18, hji18⟩ : ∃ j_ : Int, (wrap64 (x27_1 + 1)) = j_ := ⟨_, rfl⟩
    replace H : (if 0 ≤ (ji18) then (if (ji18) ≤ (l1.length : Int) then ((derive_Viable.f a0_0 a0_1 a0_2 l0_3 (l1.take ((ji18) : Int).toNat)).bind fun bt106 => (if bt106.1 = true then (derive_Judge.l0 k1 l1 (l1.length : Int) ji18 a0_0 a0_1 a0_2 l0_3) else (some (false, x27_1, 0)))) else (none)) else (none)) = some (r1, r2, r3) := by first | (rw [hji18] at H; exact H) | (simp only [hji18] at H ⊢; exact H)
    have hji18w : (IntKind.i64.wrap (x27_1 + 1)) = ji18 := (i64_w _).trans hji18
    by_cases c19 : 0 ≤ (ji18)
    rotate_left
    · rw [if_neg c19] at H
      exact absurd H (by simp)
    rw [if_pos c19] at H
    have c19b0 := eq_true c19
    have c19b1 : decide (0 ≤ (ji18)) = true := decide_eq_true c19
    clear c19
    by_cases c20 : (ji18) ≤ (l1.length : Int)
    rotate_left
    · rw [if_neg c20] at H
      exact absurd H (by simp)
    rw [if_pos c20] at H
    have c20b0 := eq_true c20
    have c20b1 : decide ((ji18) ≤ (l1.length : Int)) = true := decide_eq_true c20
    clear c20
    replace H := Option.bind_eq_some_iff.mp H
    obtain ⟨⟨t106, t107⟩, A210, H⟩ := H
    replace H : (if t106 = true then (derive_Judge.l0 k1 l1 (l1.length : Int) ji18 a0_0 a0_1 a0_2 l0_3) else (some (false, x27_1, 0))) = some (r1, r2, r3) := H
    have A21 := Aside0.mk A210
    clear A210
    by_cases c22 : t106 = true
    · subst c22
      have H1 : (derive_Judge.l0 k1 l1 (l1.length : Int) ji18 a0_0 a0_1 a0_2 l0_3) = some (r1, r2, r3) := by rw [if_pos rfl] at H; exact H
      clear H
      have H := H1
      clear H1
      as_aux_lemma =>
       have H' := Aside0.mk H
       clear H
       try go_wp2
       have n0_ := Aside0.mk (blk_drew BK101.out)
       have n1_ := Aside0.mk (blk_drew BK102.out)
       have n2_ := Aside0.mk (below_drew1 HB.out)
       clear BK101
       clear BK102
       clear HB
       have BK101 := n0_
       have BK102 := n1_
       have HB := n2_
       clear n0_ n1_ n2_
       obtain ⟨i024, hi024, _, hsz24, _⟩ := info_parts info3
       obtain ⟨hcut24, hA24, hC24⟩ := print_take_of (P := Try.prog) (Value.int .i64) 0 25 3 .i64 Try.underlying25 hi024 hsz24 A1 c1 l1 (ji18) (of_decide_eq_true (by first | (with_reducible assumption) | assumption)) (of_decide_eq_true (by first | (with_reducible assumption) | assumption)) HC1.out
       have HR105 := Aside0.mk (Kd.C_of_reads (h1 := fun _ => rfl) (hA24 _ (Kd.reads_of_C HR1.out)))
       have HC105 := Aside0.mk hC24
       clear hA24 hC24 hi024 hsz24
       refine start_ (n := 11) (S := fun w' => w'.cell? ⟨gb101, 0, none⟩ = some (.int .i64 a0_0) ∧ w'.cell? ⟨gb101, 1, none⟩ = some (.int .i64 a0_1) ∧ w'.cell? ⟨gb101, 2, none⟩ = some (.int .i64 a0_2) ∧ w'.cell? ⟨gb101, 3, none⟩ = some (.slice A0_3 l0_3.length c0_3)) (ds := []) #[false, false, false, false, false, false, false, false, false, false, false] (by kernel_rfl) rfl rfl ⟨(blk_cell BK101.out 0).trans rfl, (blk_cell BK101.out 1).trans rfl, (blk_cell BK101.out 2).trans rfl, (blk_cell BK101.out 3).trans rfl⟩ (fun hHeld => ?_); refine with_tabW derive_Judge.tab9 derive_Judge.bits9 (fun HT_ HW_ => ?_)
       generalize wr.drew = w23 at BK101 BK102 HB HR105 hHeld ⊢
       refine pure_ (i := 1) (N := some 32) (v := ?_) (a' := ?_) #[false, true, false, false, false, false, false, false, false, false, false] rfl rfl (any_of HT_.out (by kernel_rfl)) (fun _ _ _ h => h) (Or.inl ⟨by rfl, ?_⟩) ?_ ?_
       rotate_left
       · intro w'
         go_simp
         with_reducible rfl
       rotate_left
       · simp only [Act.put, List.setIfInBounds_toArray, List.set_cons_zero, List.set_cons_succ, i64_w, i32_w]
         rfl
       refine pure_ (i := 2) (N := some 33) (v := ?_) (a' := ?_) #[false, true, true, false, false, false, false, false, false, false, false] rfl rfl (any_of HT_.out (by kernel_rfl)) (fun _ _ _ h => h) (Or.inl ⟨by rfl, ?_⟩) ?_ ?_
       rotate_left
       · intro w'
         go_simp
         with_reducible rfl
       rotate_left
       · simp only [Act.put, List.setIfInBounds_toArray, List.set_cons_zero, List.set_cons_succ, i64_w, i32_w]
         rfl
       refine pure_ (i := 3) (N := some 34) (v := ?_) (a' := ?_) #[false, true, true, true, false, false, false, false, false, false, false] rfl rfl (any_of HT_.out (by kernel_rfl)) (fun _ _ _ h => h) (Or.inl ⟨by rfl, ?_⟩) ?_ ?_
       rotate_left
       · intro w'
         go_simp
         with_reducible rfl
       rotate_left
       · simp only [Act.put, List.setIfInBounds_toArray, List.set_cons_zero, List.set_cons_succ, i64_w, i32_w]
         rfl
       refine pure_ (i := 4) (N := some 35) (v := ?_) (a' := ?_) #[false, true, true, true, true, false, false, false, false, false, false] rfl rfl (any_of HT_.out (by kernel_rfl)) (fun _ _ _ h => h) (Or.inl ⟨by rfl, ?_⟩) ?_ ?_
       rotate_left
       · intro w'
         go_simp
         with_reducible rfl
       rotate_left
       · simp only [Act.put, List.setIfInBounds_toArray, List.set_cons_zero, List.set_cons_succ, i64_w, i32_w]
         rfl
       refine take_ (i := 0) (N := some 31) (v := ?_) (a' := ?_) #[true, true, true, true, true, false, false, false, false, false, false] rfl rfl (take_ofW HT_.out HW_.out (by kernel_rfl)) (fun _ _ _ h => h) (Or.inl ⟨by rfl, ?_⟩) hHeld ?_ ?_
       rotate_left
       · rintro w' ⟨s0, s1, s2, s3⟩
         go_simp
         with_reducible rfl
       rotate_left
       · simp only [Act.put, List.setIfInBounds_toArray, List.set_cons_zero, List.set_cons_succ, i64_w, i32_w]
         rfl
       refine one_ (i := 5) (N := some 36) #[true, true, true, true, true, true, false, false, false, false, false] rfl rfl (one_of HT_.out (by kernel_rfl)) (by decide) (fun K hK => ?_)
       refine goes_ Try.func15 (by kernel_rfl) rfl #[.agg #[.int .i64 a0_0, .int .i64 a0_1, .int .i64 a0_2, .slice A0_3 l0_3.length c0_3], .slice A1 (l1.take ((ji18) : Int).toNat).length c1] (by rfl) rfl rfl (by (try simp only [List.map_toArray, List.map_cons, List.map_nil]); first | done | (rw [show (l1.take ((ji18) : Int).toNat).length = (ji18).toNat from (by rw [List.length_take]; have h_ : ((ji18) : Int) ≤ (l1.length : Int) := of_decide_eq_true (by first | (with_reducible assumption) | assumption); omega)] <;> rfl) | (simp only [hji18]; rfl) | rfl | (simp only [List.length_drop, List.length_take]; rfl)) ?_
       with_reducible refine (derive_Viable.calls a0_0 a0_1 a0_2 _ _ l0_3 _ _ (l1.take ((ji18) : Int).toNat) true t107 _ ?side1 ?side2 ?side3 ?side4 A21.out).mono ?_
       (case side1 => repeat (first | exact (Kd.C_below HR0_3.out HB.out) | (with_reducible refine Kd.C_alloc ?_ _) | (with_reducible refine Kd.C_drewN ?_ _) | (with_reducible refine Kd.C_drew ?_)))
       (case side2 => exact HC0_3.out)
       (case side3 => repeat (first | exact (Kd.C_below HR105.out HB.out) | (with_reducible refine Kd.C_alloc ?_ _) | (with_reducible refine Kd.C_drewN ?_ _) | (with_reducible refine Kd.C_drew ?_)))
       (case side4 => exact HC105.out)
       rintro e w25 ⟨rfl, hb⟩
       refine ⟨_, rfl, ?_⟩
       have n0_ := Aside0.mk (blk_below (g := gb101) (o := .cells #[.int .i64 a0_0, .int .i64 a0_1, .int .i64 a0_2, .slice A0_3 l0_3.length c0_3] 24 (0, 0)) (by (with_reducible repeat (first | refine blk_drewN ?_ _ | refine blk_drew ?_ | refine blk_alloc ?_ _)); exact BK101.out) hb)
       have n1_ := Aside0.mk (blk_below (g := gb102) (o := .cells #[.bool x103000_1, .int .i64 x103001_1] 35 (0, 0)) (by (with_reducible repeat (first | refine blk_drewN ?_ _ | refine blk_drew ?_ | refine blk_alloc ?_ _)); exact BK102.out) hb)
       have n2_ := Aside0.mk (below_step (by repeat (first | (with_reducible first | exact HB.out | apply below_alloc | apply pw_below_drewN | apply below_drew1 | refine below_set ?_ GE101.out | refine below_set ?_ GE102.out) | exact HB.out)) hb)
       clear BK101
       clear BK102
       clear HB
       have BK101 := n0_
       have BK102 := n1_
       have HB := n2_
       clear n0_ n1_ n2_
       (try clear hb)
       (try clear hb2)
       (try clear hk)
       (try clear hi)
       refine hK.out _ _ ⟨(blk_cell BK101.out 0).trans rfl, (blk_cell BK101.out 1).trans rfl, (blk_cell BK101.out 2).trans rfl, (blk_cell BK101.out 3).trans rfl⟩ (fun hHeld => ?_)
       clear hK K
       refine norm_ (a' := ?_) ?_ ?_
       rotate_left
       · show Act.put _ (some 36) _ = _
         simp only [Act.put, List.setIfInBounds_toArray, List.set_cons_zero, List.set_cons_succ, i64_w, i32_w]
         rfl
       refine pure_ (i := 6) (N := some 30) (v := ?_) (a' := ?_) #[true, true, true, true, true, true, true, false, false, false, false] rfl rfl (any_of HT_.out (by kernel_rfl)) (fun _ _ _ h => h) (Or.inl ⟨by rfl, ?_⟩) ?_ ?_
       rotate_left
       · intro w'
         go_simp
         with_reducible rfl
       rotate_left
       · simp only [Act.put, List.setIfInBounds_toArray, List.set_cons_zero, List.set_cons_succ, i64_w, i32_w]
         rfl
       refine pure_ (i := 7) (N := some 37) (v := ?_) (a' := ?_) #[true, true, true, true, true, true, true, true, false, false, false] rfl rfl (any_of HT_.out (by kernel_rfl)) (fun _ _ _ h => h) (Or.inl ⟨by rfl, ?_⟩) ?_ ?_
       rotate_left
       · intro w'
         go_simp
         with_reducible rfl
       rotate_left
       · simp only [Act.put, List.setIfInBounds_toArray, List.set_cons_zero, List.set_cons_succ, i64_w, i32_w]
         rfl
       refine pure_ (i := 8) (N := some 38) (v := ?_) (a' := ?_) #[true, true, true, true, true, true, true, true, true, false, false] rfl rfl (any_of HT_.out (by kernel_rfl)) (fun _ _ _ h => h) (Or.inl ⟨by rfl, ?_⟩) ?_ ?_
       rotate_left
       · intro w'
         go_simp
         with_reducible rfl
       rotate_left
       · simp only [Act.put, List.setIfInBounds_toArray, List.set_cons_zero, List.set_cons_succ, i64_w, i32_w]
         rfl
       refine pure_ (i := 9) (N := some 9) (v := ?_) (a' := ?_) #[true, true, true, true, true, true, true, true, true, true, false] rfl rfl (any_of HT_.out (by kernel_rfl)) (fun _ _ _ h => h) (Or.inl ⟨by rfl, ?_⟩) ?_ ?_
       rotate_left
       · intro w'
         go_simp
         with_reducible rfl
       rotate_left
       · simp only [Act.put, List.setIfInBounds_toArray, List.set_cons_zero, List.set_cons_succ, i64_w, i32_w]
         rfl
       refine pure_ (i := 10) (N := some 10) (v := ?_) (a' := ?_) #[true, true, true, true, true, true, true, true, true, true, true] rfl rfl (any_of HT_.out (by kernel_rfl)) (fun _ _ _ h => h) (Or.inl ⟨by rfl, ?_⟩) ?_ ?_
       rotate_left
       · intro w'
         go_simp
         with_reducible rfl
       rotate_left
       · simp only [Act.put, List.setIfInBounds_toArray, List.set_cons_zero, List.set_cons_succ, i64_w, i32_w]
         rfl
       refine done_ (done_of HT_.out (by kernel_rfl)) ?_
       try go_wp2
       go_roundg k1
       case measure => have := HK1.out; omega
       case rel => exact ⟨(ji18), (x103000_1), (x103001_1), (by first | rfl | (simp; done) | (simp only [← hji18] <;> (first | rfl | simp)) | (simp [*]; done)), H', ⟨by have := HK1.out; omega⟩, ⟨by (with_reducible repeat (first | refine blk_drewN ?_ _ | refine blk_drew ?_ | refine blk_alloc ?_ _)); exact BK101.out⟩, ⟨by (with_reducible repeat (first | refine blk_drewN ?_ _ | refine blk_drew ?_ | refine blk_alloc ?_ _)); exact BK102.out⟩, ⟨by repeat (first | (with_reducible first | exact HB.out | apply below_alloc | apply pw_below_drewN | apply below_drew1 | refine below_set ?_ GE101.out | refine below_set ?_ GE102.out) | exact HB.out)⟩⟩
    replace c22 := Bool.eq_false_iff.mpr c22
    subst c22
    have H1 : (some (false, x27_1, 0)) = some (r1, r2, r3) := by rw [if_neg (show ¬ (false = true) by decide)] at H; exact H
    clear H
    have H := H1
    clear H1
    as_aux_lemma =>
     simp only [Option.some.injEq, Prod.mk.injEq] at H
     obtain ⟨rfl, rfl, rfl⟩ := H
     try go_wp2
     have n0_ := Aside0.mk (blk_drew BK101.out)
     have n1_ := Aside0.mk (blk_drew BK102.out)
     have n2_ := Aside0.mk (below_drew1 HB.out)
     clear BK101
     clear BK102
     clear HB
     have BK101 := n0_
     have BK102 := n1_
     have HB := n2_
     clear n0_ n1_ n2_
     obtain ⟨i027, hi027, _, hsz27, _⟩ := info_parts info3
     obtain ⟨hcut27, hA27, hC27⟩ := print_take_of (P := Try.prog) (Value.int .i64) 0 25 3 .i64 Try.underlying25 hi027 hsz27 A1 c1 l1 (ji18) (of_decide_eq_true (by first | (with_reducible assumption) | assumption)) (of_decide_eq_true (by first | (with_reducible assumption) | assumption)) HC1.out
     have HR105 := Aside0.mk (Kd.C_of_reads (h1 := fun _ => rfl) (hA27 _ (Kd.reads_of_C HR1.out)))
     have HC105 := Aside0.mk hC27
     clear hA27 hC27 hi027 hsz27
     refine start_ (n := 11) (S := fun w' => w'.cell? ⟨gb101, 0, none⟩ = some (.int .i64 a0_0) ∧ w'.cell? ⟨gb101, 1, none⟩ = some (.int .i64 a0_1) ∧ w'.cell? ⟨gb101, 2, none⟩ = some (.int .i64 a0_2) ∧ w'.cell? ⟨gb101, 3, none⟩ = some (.slice A0_3 l0_3.length c0_3)) (ds := []) #[false, false, false, false, false, false, false, false, false, false, false] (by kernel_rfl) rfl rfl ⟨(blk_cell BK101.out 0).trans rfl, (blk_cell BK101.out 1).trans rfl, (blk_cell BK101.out 2).trans rfl, (blk_cell BK101.out 3).trans rfl⟩ (fun hHeld => ?_); refine with_tabW derive_Judge.tab9 derive_Judge.bits9 (fun HT_ HW_ => ?_)
     generalize wr.drew = w26 at BK101 BK102 HB HR105 hHeld ⊢
     refine pure_ (i := 1) (N := some 32) (v := ?_) (a' := ?_) #[false, true, false, false, false, false, false, false, false, false, false] rfl rfl (any_of HT_.out (by kernel_rfl)) (fun _ _ _ h => h) (Or.inl ⟨by rfl, ?_⟩) ?_ ?_
     rotate_left
     · intro w'
       go_simp
       with_reducible rfl
     rotate_left
     · simp only [Act.put, List.setIfInBounds_toArray, List.set_cons_zero, List.set_cons_succ, i64_w, i32_w]
       rfl
     refine pure_ (i := 2) (N := some 33) (v := ?_) (a' := ?_) #[false, true, true, false, false, false, false, false, false, false, false] rfl rfl (any_of HT_.out (by kernel_rfl)) (fun _ _ _ h => h) (Or.inl ⟨by rfl, ?_⟩) ?_ ?_
     rotate_left
     · intro w'
       go_simp
       with_reducible rfl
     rotate_left
     · simp only [Act.put, List.setIfInBounds_toArray, List.set_cons_zero, List.set_cons_succ, i64_w, i32_w]
       rfl
     refine pure_ (i := 3) (N := some 34) (v := ?_) (a' := ?_) #[false, true, true, true, false, false, false, false, false, false, false] rfl rfl (any_of HT_.out (by kernel_rfl)) (fun _ _ _ h => h) (Or.inl ⟨by rfl, ?_⟩) ?_ ?_
     rotate_left
     · intro w'
       go_simp
       with_reducible rfl
     rotate_left
     · simp only [Act.put, List.setIfInBounds_toArray, List.set_cons_zero, List.set_cons_succ, i64_w, i32_w]
       rfl
     refine pure_ (i := 4) (N := some 35) (v := ?_) (a' := ?_) #[false, true, true, true, true, false, false, false, false, false, false] rfl rfl (any_of HT_.out (by kernel_rfl)) (fun _ _ _ h => h) (Or.inl ⟨by rfl, ?_⟩) ?_ ?_
     rotate_left
     · intro w'
       go_simp
       with_reducible rfl
     rotate_left
     · simp only [Act.put, List.setIfInBounds_toArray, List.set_cons_zero, List.set_cons_succ, i64_w, i32_w]
       rfl
     refine take_ (i := 0) (N := some 31) (v := ?_) (a' := ?_) #[true, true, true, true, true, false, false, false, false, false, false] rfl rfl (take_ofW HT_.out HW_.out (by kernel_rfl)) (fun _ _ _ h => h) (Or.inl ⟨by rfl, ?_⟩) hHeld ?_ ?_
     rotate_left
     · rintro w' ⟨s0, s1, s2, s3⟩
       go_simp
       with_reducible rfl
     rotate_left
     · simp only [Act.put, List.setIfInBounds_toArray, List.set_cons_zero, List.set_cons_succ, i64_w, i32_w]
       rfl
     refine one_ (i := 5) (N := some 36) #[true, true, true, true, true, true, false, false, false, false, false] rfl rfl (one_of HT_.out (by kernel_rfl)) (by decide) (fun K hK => ?_)
     refine goes_ Try.func15 (by kernel_rfl) rfl #[.agg #[.int .i64 a0_0, .int .i64 a0_1, .int .i64 a0_2, .slice A0_3 l0_3.length c0_3], .slice A1 (l1.take ((ji18) : Int).toNat).length c1] (by rfl) rfl rfl (by (try simp only [List.map_toArray, List.map_cons, List.map_nil]); first | done | (rw [show (l1.take ((ji18) : Int).toNat).length = (ji18).toNat from (by rw [List.length_take]; have h_ : ((ji18) : Int) ≤ (l1.length : Int) := of_decide_eq_true (by first | (with_reducible assumption) | assumption); omega)] <;> rfl) | (simp only [hji18]; rfl) | rfl | (simp only [List.length_drop, List.length_take]; rfl)) ?_
     with_reducible refine (derive_Viable.calls a0_0 a0_1 a0_2 _ _ l0_3 _ _ (l1.take ((ji18) : Int).toNat) false t107 _ ?side1 ?side2 ?side3 ?side4 A21.out).mono ?_
     (case side1 => repeat (first | exact (Kd.C_below HR0_3.out HB.out) | (with_reducible refine Kd.C_alloc ?_ _) | (with_reducible refine Kd.C_drewN ?_ _) | (with_reducible refine Kd.C_drew ?_)))
     (case side2 => exact HC0_3.out)
     (case side3 => repeat (first | exact (Kd.C_below HR105.out HB.out) | (with_reducible refine Kd.C_alloc ?_ _) | (with_reducible refine Kd.C_drewN ?_ _) | (with_reducible refine Kd.C_drew ?_)))
     (case side4 => exact HC105.out)
     rintro e w28 ⟨rfl, hb⟩
     refine ⟨_, rfl, ?_⟩
     have n0_ := Aside0.mk (blk_below (g := gb101) (o := .cells #[.int .i64 a0_0, .int .i64 a0_1, .int .i64 a0_2, .slice A0_3 l0_3.length c0_3] 24 (0, 0)) (by (with_reducible repeat (first | refine blk_drewN ?_ _ | refine blk_drew ?_ | refine blk_alloc ?_ _)); exact BK101.out) hb)
     have n1_ := Aside0.mk (blk_below (g := gb102) (o := .cells #[.bool x103000_1, .int .i64 x103001_1] 35 (0, 0)) (by (with_reducible repeat (first | refine blk_drewN ?_ _ | refine blk_drew ?_ | refine blk_alloc ?_ _)); exact BK102.out) hb)
     have n2_ := Aside0.mk (below_step (by repeat (first | (with_reducible first | exact HB.out | apply below_alloc | apply pw_below_drewN | apply below_drew1 | refine below_set ?_ GE101.out | refine below_set ?_ GE102.out) | exact HB.out)) hb)
     clear BK101
     clear BK102
     clear HB
     have BK101 := n0_
     have BK102 := n1_
     have HB := n2_
     clear n0_ n1_ n2_
     (try clear hb)
     (try clear hb2)
     (try clear hk)
     (try clear hi)
     refine hK.out _ _ ⟨(blk_cell BK101.out 0).trans rfl, (blk_cell BK101.out 1).trans rfl, (blk_cell BK101.out 2).trans rfl, (blk_cell BK101.out 3).trans rfl⟩ (fun hHeld => ?_)
     clear hK K
     refine norm_ (a' := ?_) ?_ ?_
     rotate_left
     · show Act.put _ (some 36) _ = _
       simp only [Act.put, List.setIfInBounds_toArray, List.set_cons_zero, List.set_cons_succ, i64_w, i32_w]
       rfl
     refine pure_ (i := 6) (N := some 30) (v := ?_) (a' := ?_) #[true, true, true, true, true, true, true, false, false, false, false] rfl rfl (any_of HT_.out (by kernel_rfl)) (fun _ _ _ h => h) (Or.inl ⟨by rfl, ?_⟩) ?_ ?_
     rotate_left
     · intro w'
       go_simp
       with_reducible rfl
     rotate_left
     · simp only [Act.put, List.setIfInBounds_toArray, List.set_cons_zero, List.set_cons_succ, i64_w, i32_w]
       rfl
     refine pure_ (i := 7) (N := some 37) (v := ?_) (a' := ?_) #[true, true, true, true, true, true, true, true, false, false, false] rfl rfl (any_of HT_.out (by kernel_rfl)) (fun _ _ _ h => h) (Or.inl ⟨by rfl, ?_⟩) ?_ ?_
     rotate_left
     · intro w'
       go_simp
       with_reducible rfl
     rotate_left
     · simp only [Act.put, List.setIfInBounds_toArray, List.set_cons_zero, List.set_cons_succ, i64_w, i32_w]
       rfl
     refine pure_ (i := 8) (N := some 38) (v := ?_) (a' := ?_) #[true, true, true, true, true, true, true, true, true, false, false] rfl rfl (any_of HT_.out (by kernel_rfl)) (fun _ _ _ h => h) (Or.inl ⟨by rfl, ?_⟩) ?_ ?_
     rotate_left
     · intro w'
       go_simp
       with_reducible rfl
     rotate_left
     · simp only [Act.put, List.setIfInBounds_toArray, List.set_cons_zero, List.set_cons_succ, i64_w, i32_w]
       rfl
     refine pure_ (i := 9) (N := some 9) (v := ?_) (a' := ?_) #[true, true, true, true, true, true, true, true, true, true, false] rfl rfl (any_of HT_.out (by kernel_rfl)) (fun _ _ _ h => h) (Or.inl ⟨by rfl, ?_⟩) ?_ ?_
     rotate_left
     · intro w'
       go_simp
       with_reducible rfl
     rotate_left
     · simp only [Act.put, List.setIfInBounds_toArray, List.set_cons_zero, List.set_cons_succ, i64_w, i32_w]
       rfl
     refine pure_ (i := 10) (N := some 10) (v := ?_) (a' := ?_) #[true, true, true, true, true, true, true, true, true, true, true] rfl rfl (any_of HT_.out (by kernel_rfl)) (fun _ _ _ h => h) (Or.inl ⟨by rfl, ?_⟩) ?_ ?_
     rotate_left
     · intro w'
       go_simp
       with_reducible rfl
     rotate_left
     · simp only [Act.put, List.setIfInBounds_toArray, List.set_cons_zero, List.set_cons_succ, i64_w, i32_w]
       rfl
     refine done_ (done_of HT_.out (by kernel_rfl)) ?_
     have hnb29 := NB102_101.out
     have hnc29 := NB101_102.out
     have hcz30_0 : w28.cell? ⟨gb102, 0, none⟩ = some (.bool x103000_1) := (blk_cell BK102.out 0).trans rfl
     have hcz30_1 : w28.cell? ⟨gb102, 1, none⟩ = some (.int .i64 x103001_1) := (blk_cell BK102.out 1).trans rfl
     have hfz30_0 := blk_frozen BK102.out 0
     have hfz30_1 := blk_frozen BK102.out 1
     try go_wp2
     refine bodyPost_ret (results_ct rfl _ _ gb102 35 #[.bool false, .int .i64 x27_1] (0, 0) _ rfl (by (with_reducible repeat (first | refine blk_drewN ?_ _ | refine blk_drew ?_ | refine blk_alloc ?_ _)); refine blk_put (cs := #[.bool false, .int .i64 x103001_1]) ?_ 1 _ rfl; (with_reducible repeat (first | refine blk_drewN ?_ _ | refine blk_drew ?_ | refine blk_alloc ?_ _)); refine blk_put (cs := #[.bool x103000_1, .int .i64 x103001_1]) ?_ 0 _ rfl; (with_reducible repeat (first | refine blk_drewN ?_ _ | refine blk_drew ?_ | refine blk_alloc ?_ _)); exact BK102.out) Try.underlying35 rfl (by kernel_rfl)) rfl ?_
     exact ⟨by first | rfl | (simp [errW_none, errW_some] <;> rfl) | (simp only [← hji18]; first | rfl | (simp [errW_none, errW_some] <;> rfl)) | (simp [*, errW_none, errW_some] <;> rfl), by repeat (first | (with_reducible first | exact HB.out | apply below_alloc | apply pw_below_drewN | apply below_drew1 | refine below_set ?_ GE101.out | refine below_set ?_ GE102.out) | exact HB.out)⟩
noncomputable def derive_Count.f (a0_0 : Int) (a0_1 : Int) (a0_2 : Int) (l0_3 : List (S55)) (a1 : Int) (l2 : List Int) : Option (Int × Int) := some ((H.countR (toGr a0_0 a0_1 a0_2 l0_3) a1 l2).1, (H.countR (toGr a0_0 a0_1 a0_2 l0_3) a1 l2).2)
theorem derive_Count.calls (a0_0 : Int) (a0_1 : Int) (a0_2 : Int) (A0_3 : Option Addr) (c0_3 : Nat) (l0_3 : List (S55)) (a1 : Int) (A2 : Option Addr) (c2 : Nat) (l2 : List Int) (r1 : Int) (r2 : Int) (w : World) (hr0_3 : Kd.C k55 w A0_3 l0_3.length l0_3) (hc0_3 : l0_3.length ≤ c0_3) (hr2 : Kd.C (Kd.int .i64) w A2 l2.length l2) (hc2 : l2.length ≤ c2) (h : derive_Count.f a0_0 a0_1 a0_2 l0_3 a1 l2 = some (r1, r2)) :
    Calls Try.prog 19 #[.agg #[.int .i64 a0_0, .int .i64 a0_1, .int .i64 a0_2, .slice A0_3 l0_3.length c0_3], .int .i64 a1, .slice A2 l2.length c2] w fun e w' => e = .returned (.tuple #[.int .i64 r1, .int .i64 r2]) ∧ Below w.heap.size w w' := by
  have h' := Option.some.inj h
  simp only [Prod.mk.injEq] at h'
  obtain ⟨rfl, rfl⟩ := h'
  rw [← grV_of]
  exact H.count_any _ a1 l2 _ _ _ _ w (grIn_of hr0_3 hc0_3) (rdI_of hr2) hc2 (Kd.C_max hr2)
noncomputable def derive_Fits.f (a0_0 : Int) (a0_1 : Int) (a0_2 : Int) (l0_3 : List (S55)) (a1_0 : Int) (a1_1 : Int) (l1_2 : List (S43)) : Option (Int) := if H.checkI (toGr a0_0 a0_1 a0_2 l0_3) = 0 ∧ 0 ≤ a1_0 ∧ a1_0 < a0_0 ∧ a0_0 ≤ a0_1 ∧ a1_1 = -1 ∧ l1_2.length = 0 then some 0 else none
theorem derive_Fits.calls (a0_0 : Int) (a0_1 : Int) (a0_2 : Int) (A0_3 : Option Addr) (c0_3 : Nat) (l0_3 : List (S55)) (a1_0 : Int) (a1_1 : Int) (A1_2 : Option Addr) (c1_2 : Nat) (l1_2 : List (S43)) (r : Int) (w : World) (hr0_3 : Kd.C k55 w A0_3 l0_3.length l0_3) (hc0_3 : l0_3.length ≤ c0_3) (hr1_2 : Kd.C k43 w A1_2 l1_2.length l1_2) (hc1_2 : l1_2.length ≤ c1_2) (h : derive_Fits.f a0_0 a0_1 a0_2 l0_3 a1_0 a1_1 l1_2 = some r) :
    Calls Try.prog 22 #[.agg #[.int .i64 a0_0, .int .i64 a0_1, .int .i64 a0_2, .slice A0_3 l0_3.length c0_3], .agg #[.int .i64 a1_0, .int .i64 a1_1, .slice A1_2 l1_2.length c1_2]] w fun e w' => e = .returned (.int .i64 r) ∧ Below w.heap.size w w' := by
  unfold derive_Fits.f at h
  split at h
  · rename_i hh
    obtain ⟨h1, h2, h3, h4, rfl, h6⟩ := hh
    obtain rfl := Option.some.inj h
    rw [h6, ← grV_of]
    exact H.fits_leaf_any _ _ _ _ _ _ w (grIn_of hr0_3 hc0_3) h1 h2 h3 h4
  · cases h
mutual
/-- A tree's leaves. -/
def yl : S43 → List Int
  | ⟨s, _, l⟩ => if l.isEmpty then s :: yls l else yls l
def yls : List S43 → List Int
  | [] => []
  | t :: l => yl t ++ yls l
end
theorem yls_snoc (l : List S43) (t : S43) : yls (l ++ [t]) = yls l ++ yl t := by
  induction l with
  | nil => simp [yls]
  | cons x l ih => simp only [List.cons_append, yls]; rw [ih, List.append_assoc]
theorem yls_take_le (l : List S43) (m : Nat) : (yls (l.take m)).length ≤ (yls l).length := by
  induction l generalizing m with
  | nil => simp
  | cons x l ih =>
    cases m with
    | zero => simp [yls]
    | succ m =>
      have := ih m
      simp only [List.take_succ_cons, yls, List.length_append] at *
      omega
structure Gy (g B : Nat) (w w' : World) : Prop where
  os : w'.os = w.os
  tape : w'.tape = w.tape
  output : w'.output = w.output
  size : w.heap.size ≤ w'.heap.size
  block : ∀ i, i < B → i ≠ g → w'.heap[i]? = w.heap[i]?
theorem Gy.trans {g B : Nat} {a b c : World} (h : Gy g B a b) (k : Gy g B b c) : Gy g B a c :=
  ⟨k.os.trans h.os, k.tape.trans h.tape, k.output.trans h.output, Nat.le_trans h.size k.size, fun i hi h1 => (k.block i hi h1).trans (h.block i hi h1)⟩
theorem Gy.below {g B : Nat} {w w' : World} (h : Below B w w') : Gy g B w w' := ⟨h.os, h.tape, h.output, h.size, fun i hi _ => h.block i hi⟩
theorem Gy.set {g B : Nat} (w : World) (u : Value) : Gy g B w (w.setCell ⟨g, 0, none⟩ u) := by
  have h : Below (⟨g, 0, none⟩ : Addr).block w (w.setCell ⟨g, 0, none⟩ u) := Below.setCell (Below.refl _ _) (Nat.le_refl _) u
  exact ⟨h.os, h.tape, h.output, by simp, fun i _ hi => Below.heap_setCell w ⟨g, 0, none⟩ u i hi⟩
theorem Gy.low {g B b : Nat} {w w' : World} (h : Gy g B w w') (hg : b ≤ g) (hB : b ≤ B) : Below b w w' := ⟨h.os, h.tape, h.output, h.size, fun i hi => h.block i (by omega) (by omega)⟩
theorem Gy.blk {g B b : Nat} {w w' : World} {t : TypeId} {cs : Array Value} (h : Gy g B w w') (hb : H.Blk w b t cs) (h1 : b < B) (h2 : b ≠ g) : H.Blk w' b t cs := (h.block b h1 h2).trans hb
theorem own_far {w : World} {B g : Nat} {v u : Value} {xs : List Int} (h : H.OwnI w B v xs) (hg : g < B) : H.OwnI (w.setCell ⟨g, 0, none⟩ u) B v xs := by
  obtain ⟨h1, h2⟩ := h
  refine ⟨h1, ?_⟩
  rcases h2 with h0 | ⟨b, cap, cur, hv, hB, hh, hr⟩
  · exact .inl h0
  · exact .inr ⟨b, cap, cur, hv, hB, (Below.heap_setCell w ⟨g, 0, none⟩ u b (by show b ≠ g; omega)).trans hh, hr⟩
def RetY (gO B : Nat) (t : S43) (xs : List Int) (w : World) (e : Ending) (w' : World) : Prop :=
  e = .returned (.tuple #[]) ∧ ∃ v', H.Blk w' gO 25 #[v'] ∧ H.OwnI w' B v' (xs ++ yl t) ∧ Gy gO B w w'
set_option maxRecDepth 100000 in
set_option maxHeartbeats 4000000 in
theorem yield_walk (w0 : World) (gO gW B : Nat) (h0 : w0.heap.size ≤ gO) (h1 : gO < B) (h2 : gW < B) (h3 : gW ≠ gO) : ∀ (N : Nat) (t : S43), SizeOf.sizeOf t < N → ∀ (A : Option Addr) (c : Nat) (w : World) (v : Value) (xs : List Int), Kd.C k43 w0 A t.f2.length t.f2 → t.f2.length ≤ c → Below w0.heap.size w0 w → B ≤ w.heap.size →
    H.Blk w gO 25 #[v] → H.Blk w gW 68 #[.func (.func 42) #[] #[.pointer (some ⟨gO, 0, none⟩), .pointer (some ⟨gW, 0, none⟩)]] → H.OwnI w B v xs → xs.length + (yl t).length < 8796093022208 →
    Calls Try.prog 42 #[.agg #[.int .i64 t.f0, .int .i64 t.f1, .slice A t.f2.length c], .pointer (some ⟨gO, 0, none⟩), .pointer (some ⟨gW, 0, none⟩)] w (RetY gO B t xs w) := by
  intro N
  induction N with
  | zero => intro t h; exact absurd h (Nat.not_lt_zero _)
  | succ N ih =>
    intro t hN A c w v xs hC hc hb0 hBw BO BW HO hl
    have HC := H.Keep.mk hC
    have HB0 := H.Keep.mk hb0
    have KBO := H.Keep.mk BO
    have KBW := H.Keep.mk BW
    have KHO := H.Keep.mk HO
    have nO := BO.lt
    have nW := BW.lt
    have hm := Kd.C_max hC
    obtain ⟨s, p, l⟩ := t
    dsimp only at *
    have HK : H.Keep (∀ m (hm : m < l.length), ∀ (A' : Option Addr) (c' : Nat) (W : World) (v' : Value) (ys : List Int), Kd.C k43 w0 A' (rd_T43 l (m : Int)).f2.length (rd_T43 l (m : Int)).f2 → (rd_T43 l (m : Int)).f2.length ≤ c' → Below w0.heap.size w0 W → B ≤ W.heap.size → H.Blk W gO 25 #[v'] → H.Blk W gW 68 #[.func (.func 42) #[] #[.pointer (some ⟨gO, 0, none⟩), .pointer (some ⟨gW, 0, none⟩)]] → H.OwnI W B v' ys → ys.length + (yl (rd_T43 l (m : Int))).length < 8796093022208 →
        Calls Try.prog 42 #[.agg #[.int .i64 (rd_T43 l (m : Int)).f0, .int .i64 (rd_T43 l (m : Int)).f1, .slice A' (rd_T43 l (m : Int)).f2.length c'], .pointer (some ⟨gO, 0, none⟩), .pointer (some ⟨gW, 0, none⟩)] W (RetY gO B (rd_T43 l (m : Int)) ys W)) := ⟨fun m hm => by
      have hx : rd_T43 l (m : Int) = l[m] := by simp [rd_T43, List.getD_eq_getElem?_getD, hm]
      rw [hx]
      have := List.sizeOf_lt_of_mem (List.getElem_mem hm)
      exact ih _ (by simp at hN; omega)⟩
    have HY : H.Keep (∀ m (hm : m < l.length), yls (l.take (m + 1)) = yls (l.take m) ++ yl (rd_T43 l (m : Int))) := ⟨fun m hm => by
      have hx : rd_T43 l (m : Int) = l[m] := by simp [rd_T43, List.getD_eq_getElem?_getD, hm]
      rw [hx, List.take_add_one, List.getElem?_eq_getElem hm, Option.toList_some, yls_snoc]⟩
    have HYL : H.Keep (∀ m, xs.length + (if l.isEmpty then 1 else 0) + (yls (l.take m)).length < 8796093022208 ∧ ∀ (hm : m < l.length), xs.length + (if l.isEmpty then 1 else 0) + (yls (l.take m)).length + (yl (rd_T43 l (m : Int))).length < 8796093022208) := ⟨fun m => by
      have e : (yl ⟨s, p, l⟩).length = (if l.isEmpty then 1 else 0) + (yls l).length := by
        unfold yl
        cases l.isEmpty <;> simp <;> omega
      rw [e] at hl
      refine ⟨by have := yls_take_le l m; omega, fun hm => ?_⟩
      have := yls_take_le l (m + 1)
      rw [HY.out m hm, List.length_append] at this
      omega⟩
    have HFIN : H.Keep (∀ e w' v', e = .returned (.tuple #[]) → H.Blk w' gO 25 #[v'] → H.OwnI w' B v' ((if l.isEmpty then xs ++ [s] else xs) ++ yls (l.take l.length)) → Gy gO B w w' → RetY gO B ⟨s, p, l⟩ xs w e w') := ⟨fun e w' v' h1 h2 h3 h4 => ⟨h1, v', h2, by
      rw [List.take_length] at h3
      unfold yl
      cases hle : l.isEmpty <;> rw [hle] at h3 <;> simp at h3 ⊢ <;> exact h3, h4⟩⟩
    have HBo : H.Keep (Below B w (w.alloc (.cells #[.int .i64 s, .int .i64 p, .slice A l.length c] 43))) := ⟨(Below.refl _ _).alloc hBw _⟩
    generalize hQ : RetY gO B ⟨s, p, l⟩ xs w = Q at *
    clear ih hN hl hC hb0 hQ
    go_enter Try.func42, Try.ntmps42
    by_cases hle : l.length = 0
    · obtain rfl : l = [] := List.eq_nil_of_length_eq_zero hle
      have HL := H.Keep.mk (HYL.out 0).1
      have qo := KBO.out.cell 0
      simp at qo
      go_wp2_with (at_builtin; refine H.wpl_append_int _ rfl (.tmp 10) (.tmp 13) rfl B _ xs rfl ((KHO.out.below (((Below.refl _ _).alloc (Nat.le_refl _) _).alloc (by simp) _))) (w.heap.size + 1) s rfl ?c1 ?c2 ?c3 ?_)
      case c1 => simp [World.cell?_alloc_at]
      case c2 => have := HL.out; simp at this; omega
      case c3 => simp; omega
      intro v' w7 hGr
      obtain ⟨A8, c8, e8, _⟩ := hGr.own.open_
      generalize (xs ++ [s]).length = n8 at e8
      subst e8
      generalize hv' : Value.slice A8 n8 c8 = v' at *
      have B7 : H.Keep (H.Blk w7 gO 25 #[v]) := ⟨hGr.blk gO _ _ ((KBO.out.alloc _).alloc _) (by decide)⟩
      have L7 : H.Keep (Below B w w7) := ⟨(((Below.refl _ _).alloc hBw _).alloc (by simp; omega) _).trans hGr.low⟩
      have O7 := H.Keep.mk hGr.own
      have n7 : gO < w7.heap.size := B7.out.lt
      have q7 := B7.out.cell 0
      have f7 := B7.out.frozen 0
      simp at q7
      have B8 : H.Keep (H.Blk (w7.setCell ⟨gO, 0, none⟩ v') gO 25 #[v']) := ⟨by have := B7.out.set_ 0 v'; simpa using this⟩
      have O8 : H.Keep (H.OwnI (w7.setCell ⟨gO, 0, none⟩ v') B v' (xs ++ [s])) := ⟨own_far O7.out h1⟩
      have BT : H.Keep (H.Blk w7 w.heap.size 43 #[.int .i64 s, .int .i64 p, .slice A 0 c]) := ⟨hGr.blk _ _ _ ((H.Blk.new _ _ _).alloc _) (by decide)⟩
      have nT := BT.out.lt
      have rT := (BT.out.far (p := ⟨gO, 0, none⟩) (by show w.heap.size ≠ gO; omega) v').cell 2
      simp at rT
      have G8 : H.Keep (Gy gO B w (w7.setCell ⟨gO, 0, none⟩ v')) := ⟨(Gy.below L7.out).trans (Gy.set _ _)⟩
      clear hGr qo BO HO
      subst hv'
      go_wp2
      go_loopg [18] 0 (fun gg s18 wr => s18 = .int .i64 0 ∧ wr = w7.setCell ⟨gO, 0, none⟩ (Value.slice A8 n8 c8))
      case atStart => exact ⟨rfl, rfl⟩
      case round =>
        obtain ⟨rfl, rfl⟩ := hrel
        go_wp2
        try go_end0
        exact HFIN.out _ _ _ rfl B8.out (by simpa [yls] using O8.out) G8.out
    · have t1 : ((l.length : Int) == 0) = false := beq_eq_false_iff_ne.2 (by omega)
      have hie : l.isEmpty = false := by cases l with | nil => simp at hle | cons => rfl
      rw [hie] at HFIN HYL
      simp only [Bool.false_eq_true, if_false] at HFIN HYL
      go_wp2
      go_loopg [18] l.length (fun gg s18 wr => ∃ (m : Nat) (v' : Value), m ≤ l.length ∧ l.length - m ≤ gg ∧ s18 = .int .i64 (m : Int) ∧ H.Keep (H.Blk wr gO 25 #[v']) ∧ H.Keep (H.OwnI wr B v' (xs ++ yls (l.take m))) ∧ H.Keep (Gy gO B w wr))
      case atStart => exact ⟨0, v, Nat.zero_le _, by omega, rfl, ⟨KBO.out.below HBo.out h1⟩, ⟨by simp [yls]; exact KHO.out.below ((Below.refl _ _).alloc (Nat.le_refl _) _)⟩, ⟨Gy.below HBo.out⟩⟩
      case round =>
        clear KBO KHO
        obtain ⟨m, v', hm1, hgm, rfl, QBO, QHO, QG⟩ := hrel
        have QB0 : H.Keep (Below w0.heap.size w0 wr) := ⟨HB0.out.trans (QG.out.low h0 (by omega))⟩
        by_cases hlt : m < l.length
        · obtain ⟨ad, A2, c2, eA, k0, k1, k2, hc2, hC2⟩ := at_T43 HC.out (m : Int) (by omega) (by omega)
          have HCm := H.Keep.mk hC2
          simp only [Int.toNat_natCast] at k0 k1 k2
          have hbl : ad.block < w0.heap.size := by have := H.cell_lt k0; rwa [H.add_block] at this
          replace k0 := H.cell_below k0 QB0.out (by rw [H.add_block]; exact hbl)
          replace k1 := H.cell_below k1 QB0.out (by show (ad.add (m * 3)).block < _; rw [H.add_block]; exact hbl)
          replace k2 := H.cell_below k2 QB0.out (by show (ad.add (m * 3)).block < _; rw [H.add_block]; exact hbl)
          have HKm := H.Keep.mk (HK.out m hlt)
          have HYm := H.Keep.mk (HY.out m hlt)
          have HLm := H.Keep.mk ((HYL.out m).2 hlt)
          subst eA
          generalize rd_T43 l (m : Int) = t at *
          obtain ⟨s2, p2, l2⟩ := t
          dsimp only at *
          have i1 : (0 : Int) ≤ m := by omega
          have i2 : (m : Int) < l.length := by omega
          obtain ⟨wo, rfl⟩ : ∃ wo : World, wo = wr := ⟨_, rfl⟩
          have nw := QG.out.size
          have HBi : H.Keep (Below B wo (wo.alloc (.cells #[.int .i64 s2, .int .i64 p2, .slice A2 l2.length c2] 43))) := ⟨(Below.refl _ _).alloc (by omega) _⟩
          have QBW : H.Keep (H.Blk (wo.alloc (.cells #[.int .i64 s2, .int .i64 p2, .slice A2 l2.length c2] 43)) gW 68 #[.func (.func 42) #[] #[.pointer (some ⟨gO, 0, none⟩), .pointer (some ⟨gW, 0, none⟩)]]) := ⟨(QG.out.blk KBW.out h2 h3).below HBi.out h2⟩
          have qw := QBW.out.cell 0
          simp at qw
          have KC := H.Keep.mk (HKm.out A2 c2 (wo.alloc (.cells #[.int .i64 s2, .int .i64 p2, .slice A2 l2.length c2] 43)) v' (xs ++ yls (l.take m)) HCm.out hc2 (QB0.out.trans (((Below.refl _ _).alloc (by have := HB0.out.size; omega) _))) (by simp; omega) (QBO.out.below HBi.out h1) QBW.out (QHO.out.below ((Below.refl _ _).alloc (Nat.le_refl _) _)) (by rw [List.length_append]; have := HLm.out; omega))
          go_wp2_with fail
          refine KC.out.mono ?_
          rintro e w3 ⟨rfl, v3, R1, R2, R3⟩
          have T1 := H.Keep.mk R1
          have T2 : H.Keep (H.OwnI w3 B v3 (xs ++ yls (l.take (m + 1)))) := ⟨by rw [HYm.out, ← List.append_assoc]; exact R2⟩
          have T3 : H.Keep (Gy gO B w w3) := ⟨(QG.out.trans (Gy.below HBi.out)).trans R3⟩
          clear R1 R2 R3 KC k0 k1 k2 qw
          go_wp2
          go_roundg (l.length - (m + 1))
          case measure => omega
          case rel => exact ⟨m + 1, v3, by omega, by omega, by go_num, T1, T2, T3⟩
        · obtain rfl : m = l.length := by omega
          go_wp2
          try go_end0
          exact HFIN.out _ _ v' rfl QBO.out QHO.out QG.out
set_option maxRecDepth 100000 in
set_option maxHeartbeats 4000000 in
theorem yield_any (t : S43) (A : Option Addr) (c : Nat) (w : World) (hC : Kd.C k43 w A t.f2.length t.f2) (hc : t.f2.length ≤ c) (hl : (yl t).length < 8796093022208) :
    Calls Try.prog 26 #[.agg #[.int .i64 t.f0, .int .i64 t.f1, .slice A t.f2.length c]] w fun e w' => ∃ v', e = .returned v' ∧ H.OwnI w' w.heap.size v' (yl t) ∧ Below w.heap.size w w' := by
  obtain ⟨W1, hW1⟩ : ∃ W1, W1 = ((w.alloc (.cells #[.int .i64 t.f0, .int .i64 t.f1, .slice A t.f2.length c] 43)).alloc (.cells #[.slice none 0 0] 25)).alloc (.cells #[.nilFunc] 68) := ⟨_, rfl⟩
  have s1 : W1.heap.size = w.heap.size + 3 := by rw [hW1]; simp
  have b1 : Below w.heap.size w W1 := by rw [hW1]; exact ((Below.refl _ _).alloc (Nat.le_refl _) _).alloc (by simp) _ |>.alloc (by simp; omega) _
  have o1 : H.Blk W1 (w.heap.size + 1) 25 #[.slice none 0 0] := by rw [hW1]; exact (H.Blk.newAt (by simp)).alloc _
  have p1 : H.Blk W1 (w.heap.size + 2) 68 #[.nilFunc] := by rw [hW1]; exact H.Blk.newAt (by simp)
  have q1 := p1.cell 0
  have f1 := p1.frozen 0
  simp at q1
  have B0 : H.Keep (Below w.heap.size w (W1.setCell ⟨w.heap.size + 2, 0, none⟩ (.func (.func 42) #[] #[.pointer (some ⟨w.heap.size + 1, 0, none⟩), .pointer (some ⟨w.heap.size + 2, 0, none⟩)]))) := ⟨b1.setCell (by show w.heap.size ≤ w.heap.size + 2; omega) _⟩
  have K := H.Keep.mk (yield_walk w (w.heap.size + 1) (w.heap.size + 2) (w.heap.size + 3) (by omega) (by omega) (by omega) (by omega) _ t (Nat.lt_succ_self _) A c _ (.slice none 0 0) [] hC hc B0.out (by simp [s1]) (o1.far (by show w.heap.size + 1 ≠ w.heap.size + 2; omega) _) (by have := p1.set_ 0 (.func (.func 42) #[] #[.pointer (some ⟨w.heap.size + 1, 0, none⟩), .pointer (some ⟨w.heap.size + 2, 0, none⟩)]); simpa using this) (H.OwnI.nil _ _) (by simpa using hl))
  have BT : H.Keep (H.Blk (W1.setCell ⟨w.heap.size + 2, 0, none⟩ (.func (.func 42) #[] #[.pointer (some ⟨w.heap.size + 1, 0, none⟩), .pointer (some ⟨w.heap.size + 2, 0, none⟩)])) w.heap.size 43 #[.int .i64 t.f0, .int .i64 t.f1, .slice A t.f2.length c]) := ⟨by rw [hW1]; exact ((H.Blk.new _ _ _).alloc _ |>.alloc _).far (by show w.heap.size ≠ w.heap.size + 2; omega) _⟩
  have t0 := BT.out.cell 0
  have t1 := BT.out.cell 1
  have t2 := BT.out.cell 2
  simp at t0 t1 t2
  have nT := BT.out.lt
  have BF : H.Keep (H.Blk (W1.setCell ⟨w.heap.size + 2, 0, none⟩ (.func (.func 42) #[] #[.pointer (some ⟨w.heap.size + 1, 0, none⟩), .pointer (some ⟨w.heap.size + 2, 0, none⟩)])) (w.heap.size + 2) 68 #[(.func (.func 42) #[] #[.pointer (some ⟨w.heap.size + 1, 0, none⟩), .pointer (some ⟨w.heap.size + 2, 0, none⟩)])]) := ⟨by have := p1.set_ 0 (.func (.func 42) #[] #[.pointer (some ⟨w.heap.size + 1, 0, none⟩), .pointer (some ⟨w.heap.size + 2, 0, none⟩)]); simpa using this⟩
  have tF := BF.out.cell 0
  simp at tF
  clear hC hl o1 p1 b1
  have HW := H.Keep.mk hW1
  go_enter Try.func26, Try.ntmps26
  go_upto_region 3 with fail
  rw [← hW1]
  clear hW1
  simp only [show w.heap.size + 1 + 1 = w.heap.size + 2 from rfl]
  go_wp2_with fail
  refine K.out.mono ?_
  rintro e w3 ⟨rfl, v3, R1, R2, R3⟩
  have B3 : H.Keep (Below w.heap.size w w3) := ⟨B0.out.trans (R3.low (by omega) (by omega))⟩
  have R2' := H.Keep.mk (R2.mono (show w.heap.size ≤ w.heap.size + 3 by omega))
  have r3 := R1.cell 0
  have n3 := R1.lt
  simp at r3
  clear R1 R2 R3 K
  go_wp2_with fail
  go_ret
  exact ⟨v3, rfl, by simpa using R2'.out, B3.out⟩
noncomputable def derive_Yield.f (a0_0 : Int) (a0_1 : Int) (l0_2 : List (S43)) : Option (List Int) := if (yl ⟨a0_0, a0_1, l0_2⟩).length < 8796093022208 then some (yl ⟨a0_0, a0_1, l0_2⟩) else none
theorem derive_Yield.calls (a0_0 : Int) (a0_1 : Int) (A0_2 : Option Addr) (c0_2 : Nat) (l0_2 : List (S43)) (r : List Int) (w : World) (hr0_2 : Kd.C k43 w A0_2 l0_2.length l0_2) (hc0_2 : l0_2.length ≤ c0_2) (h : derive_Yield.f a0_0 a0_1 l0_2 = some r) :
    Calls Try.prog 26 #[.agg #[.int .i64 a0_0, .int .i64 a0_1, .slice A0_2 l0_2.length c0_2]] w fun e w' => ∃ v0_ : Value, e = .returned (v0_) ∧ Kd.R (Kd.int .i64) 3 w' w.heap.size (fun _ => True) v0_ r ∧ Below w.heap.size w w' := by
  unfold derive_Yield.f at h
  by_cases hl : (yl ⟨a0_0, a0_1, l0_2⟩).length < 8796093022208
  · rw [if_pos hl] at h
    obtain rfl := Option.some.inj h
    exact (yield_any ⟨a0_0, a0_1, l0_2⟩ A0_2 c0_2 w hr0_2 hc0_2 hl).mono fun e w' ⟨v, he, ho, hb⟩ => ⟨v, he, Kd.R_of_own ho (fun _ _ => trivial), hb⟩
  · rw [if_neg hl] at h
    cases h
end Go.Proofs.Ytadabkkkalgehaa.PLi
namespace Go.Proofs.Ytadabkkkalgehaa.PLi
open Go.RowKit Go.Proofs.YtadabkkkalgehaaW.PrintWords Go.Proofs.YtadabkkkalgehaaW.PrintLast Go.Proofs.YtadabkkkalgehaaW.PrintMore
attribute [local go_sem] max2_int min2_int max_two min_two max_three min_three max_four min_four   -- for this text's walks alone
set_option linter.unusedVariables false
set_option linter.unusedSimpArgs false
attribute [local go_sem high] eqA35
noncomputable def rootstocklaw14_Sum.l0 : Nat → Int → List Int → Int → Option (List Int)
  | 0, _, _, _ => none
  | k + 1, x0, x3, x4 => if x4 < x0 then ((some (([1, 0] : List Int) : List Int)).bind fun y111 => (if x3.length + y111.length < 17592186044416 then (rootstocklaw14_Sum.l0 k x0 (x3 ++ y111) (wrap64 (x4 + 1))) else (none))) else (some x3)
noncomputable def rootstocklaw14_Sum.f (k : Nat) (a0 : Int) : Option (List Int) := rootstocklaw14_Sum.l0 k a0 (([0] : List Int)) 1
set_option maxHeartbeats 8000000 in
set_option maxRecDepth 100000 in
theorem rootstocklaw14_Sum.calls (k : Nat) (a0 : Int) (r : List Int) (w : World) (h : rootstocklaw14_Sum.f k a0 = some r) :
    Calls Try.prog 28 #[.int .i64 a0] w fun e w' => ∃ v0_ : Value, e = .returned (v0_) ∧ Kd.R (Kd.int .i64) 3 w' w.heap.size (fun _ => True) v0_ r ∧ Below w.heap.size w w' := by
 have HB := Aside0.mk (Below.refl w.heap.size w)
 have H : (rootstocklaw14_Sum.l0 k a0 (([0] : List Int)) 1) = some r := h
 clear h
 obtain ⟨y108, hy108⟩ : ∃ y_ : List Int, y_ = (([0] : List Int)) := ⟨_, rfl⟩
 replace H : (rootstocklaw14_Sum.l0 k a0 y108 1) = some r := by first | (rw [hy108]; with_reducible exact H) | (have H2_ := (Option.bind_some _ _).symm.trans H; rw [hy108]; with_reducible exact H2_) | (have H2_ := (Option.bind_some _ _).symm.trans H; with_reducible exact H2_) | with_reducible exact H | (rw [hy108]; exact H) | exact H
 have Ny108 := Aside0.mk hy108
 clear hy108
 have H' := Aside0.mk H
 clear H
 go_enter Try.func28, Try.ntmps28
 go_wp2_with (first | ((with_reducible refine gate_dst (N := 5) rfl ?_); refine Kd.R_lit (Kd.int .i64) _ 3 ?hg (N := 5) ?hd (xs := ([0] : List Int)) (inner := [.int .i64 0]) (ok := fun _ => True) (okp := fun _ => True) ?hr ?hp (fun _ hk => hk) trivial (Below.refl _ _) (Nat.le_refl _) (by simp) ?_; (case hd => rfl); (case hg => rfl); (case hr => first | (go_simp; done) | (go_simp; rfl)); (case hp => exact (Reps.one (show Kd.M (Kd.int .i64) _ _ _ 0 [.int .i64 0] from rfl) (Reps.none _ _))); intro v109 w2 ho3 hb hg_ hnew_; clear hg_ hnew_; (first | rw [← Ny108.out] at ho3 | (simp only [Int.reduceToNat] at ho3; rw [← Ny108.out] at ho3)); have n0_ := Aside0.mk (Kd.R_lower ho3 (below_size (by repeat (first | (with_reducible first | exact HB.out | apply below_alloc | apply pw_below_drewN | apply below_drew1) | exact HB.out)))); have n1_ := Aside0.mk (below_step (by repeat (first | (with_reducible first | exact HB.out | apply below_alloc | apply pw_below_drewN | apply below_drew1) | exact HB.out)) hb); clear HB; have HO110 := n0_; have HB := n1_; clear n0_ n1_; clear hb ho3))
 go_loopg [3, 4] k (fun kq v3 v4 w' => ∃ (x3_1 : List Int) (x4_1 : Int), v4 = .int .i64 x4_1 ∧ Aside0 (rootstocklaw14_Sum.l0 kq a0 x3_1 x4_1 = some r) ∧ Aside0 (kq ≤ k) ∧ Aside0 (Kd.R (Kd.int .i64) 3 w' w.heap.size (fun _ => True) v3 x3_1) ∧ Aside0 (Below w.heap.size w w'))
 case atStart => exact ⟨(y108), (1), (by first | rfl | (simp; done) | (simp [*]; done)), H', ⟨Nat.le_refl _⟩, ⟨by (with_reducible repeat (first | apply Kd.R_alloc | apply Kd.R_drewN | apply Kd.R_drew)); exact HO110.out⟩, ⟨by repeat (first | (with_reducible first | exact HB.out | apply below_alloc | apply pw_below_drewN | apply below_drew1) | exact HB.out)⟩⟩
 case round =>
  clear H'
  try clear c2
  try clear p2
  obtain ⟨x3_1, x4_1, rfl, HA, HK1, HO_3, HB⟩ := hrel
  cases gk with
  | zero => exact absurd HA.out (by simp [rootstocklaw14_Sum.l0])
  | succ k1 =>
   have H := HA.out
   clear HA
   simp only [rootstocklaw14_Sum.l0] at H
   by_cases c4 : x4_1 < a0
   rotate_left
   · rw [if_neg c4] at H
     have c4b0 : decide (x4_1 < a0) = false := decide_eq_false c4
     clear c4
     as_aux_lemma =>
      obtain rfl := Option.some.inj H
      go_wp2
      go_ret
      exact ⟨_, by first | rfl | (simp [errW_none, errW_some] <;> rfl) | (simp [*, errW_none, errW_some] <;> rfl), by (with_reducible repeat (first | apply Kd.R_alloc | apply Kd.R_drewN | apply Kd.R_drew)); exact HO_3.out, by repeat (first | (with_reducible first | exact HB.out | apply below_alloc | apply pw_below_drewN | apply below_drew1) | exact HB.out)⟩
   rw [if_pos c4] at H
   have c4b0 : decide (x4_1 < a0) = true := decide_eq_true c4
   clear c4
   obtain ⟨y111, hy111⟩ : ∃ y_ : List Int, y_ = (([1, 0] : List Int)) := ⟨_, rfl⟩
   replace H : (if x3_1.length + y111.length < 17592186044416 then (rootstocklaw14_Sum.l0 k1 a0 (x3_1 ++ y111) (wrap64 (x4_1 + 1))) else (none)) = some r := by first | (rw [hy111]; with_reducible exact H) | (have H2_ := (Option.bind_some _ _).symm.trans H; rw [hy111]; with_reducible exact H2_) | (have H2_ := (Option.bind_some _ _).symm.trans H; with_reducible exact H2_) | with_reducible exact H | (rw [hy111]; exact H) | exact H
   have Ny111 := Aside0.mk hy111
   clear hy111
   by_cases c5 : x3_1.length + y111.length < 17592186044416
   rotate_left
   · rw [if_neg c5] at H
     exact absurd H (by simp)
   rw [if_pos c5] at H
   have LMc5 := Aside0.mk c5
   clear c5
   obtain ⟨y114, hy114⟩ : ∃ y_ : List Int, y_ = (x3_1 ++ y111) := ⟨_, rfl⟩
   replace H : (rootstocklaw14_Sum.l0 k1 a0 y114 (wrap64 (x4_1 + 1))) = some r := by first | (rw [hy114]; with_reducible exact H) | (have H2_ := (Option.bind_some _ _).symm.trans H; rw [hy114]; with_reducible exact H2_) | (have H2_ := (Option.bind_some _ _).symm.trans H; with_reducible exact H2_) | with_reducible exact H | (rw [hy114]; exact H) | exact H
   have Ny114 := Aside0.mk hy114
   clear hy114
   as_aux_lemma =>
    have H' := Aside0.mk H
    clear H
    go_wp2_with (first | ((with_reducible refine gate_dst (N := 12) rfl ?_); refine Kd.R_lit (Kd.int .i64) _ 3 ?hg (N := 12) ?hd (xs := ([1, 0] : List Int)) (inner := [.int .i64 1, .int .i64 0]) (ok := fun _ => True) (okp := fun _ => True) ?hr ?hp (fun _ hk => hk) trivial (Below.refl _ _) (Nat.le_refl _) (by simp) ?_; (case hd => rfl); (case hg => rfl); (case hr => first | (go_simp; done) | (go_simp; rfl)); (case hp => exact (Reps.one (show Kd.M (Kd.int .i64) _ _ _ 1 [.int .i64 1] from rfl) (Reps.one (show Kd.M (Kd.int .i64) _ _ _ 0 [.int .i64 0] from rfl) (Reps.none _ _)))); intro v112 w6 ho7 hb hg_ hnew_; clear hg_ hnew_; (first | rw [← Ny111.out] at ho7 | (simp only [Int.reduceToNat] at ho7; rw [← Ny111.out] at ho7)); have n0_ := Aside0.mk (Kd.R_elder' (by (with_reducible repeat (first | apply Kd.R_alloc | apply Kd.R_drewN | apply Kd.R_drew)); exact HO_3.out) (Kd.R_base ho7) hb); have n1_ := Aside0.mk (Kd.R_lower (Kd.R_new' ho7 (Kd.R_lt (by (with_reducible repeat (first | apply Kd.R_alloc | apply Kd.R_drewN | apply Kd.R_drew)); exact HO_3.out))) (below_size (by repeat (first | (with_reducible first | exact HB.out | apply below_alloc | apply pw_below_drewN | apply below_drew1) | exact HB.out)))); have n2_ := Aside0.mk (below_step (by repeat (first | (with_reducible first | exact HB.out | apply below_alloc | apply pw_below_drewN | apply below_drew1) | exact HB.out)) hb); clear HO_3; clear HB; have HO_3 := n0_; have HO113 := n1_; have HB := n2_; clear n0_ n1_ n2_; clear hb ho7; obtain ⟨Ao9, co9, eo9⟩ := Kd.R_slice HO113.out; subst eo9) | ((with_reducible refine gate_builtin (b := .append) (xs := #[.tmp 11, .tmp 12]) rfl ?_); at_builtin; refine Kd.R_append_rows (Kd.int .i64) (w0 := w) w.heap.size rfl (.tmp 11) (.tmp 12) 25 3 (.int .i64 0) 8 rfl Try.underlying25 info3 rfl (by decide) (by omega) u3 x3_1 y111 _ _ _ (fun k_ => some k_ ≠ (.slice Ao9 y111.length co9 : Value).ownBlock) (fun _ => False) rfl rfl ?aO ?aR (fun _ _ h => h) (fun _ h => h.elim) ?aF ?aB ?aS ?aL ?_; (case aR => repeat (first | exact (Kd.R_reads' HO113.out).2.2 | (with_reducible refine Kd.C_alloc ?_ _) | (with_reducible refine Kd.C_drewN ?_ _) | (with_reducible refine Kd.C_drew ?_))); (case aB => exact (by repeat (first | (with_reducible first | exact HB.out | apply below_alloc | apply pw_below_drewN | apply below_drew1) | exact HB.out))); (case aF => exact (fun k_ hk => Kd.fresh' (Kd.R_lt (by (with_reducible repeat (first | apply Kd.R_alloc | apply Kd.R_drewN | apply Kd.R_drew)); exact HO113.out)) k_ hk)); (case aO => exact (by (with_reducible repeat (first | apply Kd.R_alloc | apply Kd.R_drewN | apply Kd.R_drew)); exact Kd.R_mono HO_3.out (fun _ hk => hk.2))); (case aS => exact (below_size (by repeat (first | (with_reducible first | exact HB.out | apply below_alloc | apply pw_below_drewN | apply below_drew1) | exact HB.out)))); (case aL => have := LMc5.out; omega); intro v115 w8 ho hb hg hat; rw [← Ny114.out] at ho; have n0_ := Aside0.mk (Kd.R_after (ok := (fun _ => True)) (by (with_reducible repeat (first | apply Kd.R_alloc | apply Kd.R_drewN | apply Kd.R_drew)); exact HO113.out) hg hat); have n1_ := Aside0.mk (hb); have n2_ := Aside0.mk (ho); clear HO113; clear HB; clear HO_3; have HO113 := n0_; have HB := n1_; have HO116 := n2_; clear n0_ n1_ n2_; clear ho hb hg hat))
    go_roundg k1
    case measure => have := HK1.out; omega
    case rel => exact ⟨(y114), (wrap64 (x4_1 + 1)), (by first | rfl | (simp; done) | (simp [*]; done)), H', ⟨by have := HK1.out; omega⟩, ⟨by (with_reducible repeat (first | apply Kd.R_alloc | apply Kd.R_drewN | apply Kd.R_drew)); exact Kd.R_mono HO116.out (fun _ hk => trivial)⟩, ⟨by repeat (first | (with_reducible first | exact HB.out | apply below_alloc | apply pw_below_drewN | apply below_drew1) | exact HB.out)⟩⟩
noncomputable def rootstocklaw14_Sums.f  : Option (Int × Int × Int × (List (S55))) := some (2, 3, 2, (([(⟨2, (([2, 1, 2] : List Int)), false⟩ : S55), (⟨2, (([0] : List Int)), false⟩ : S55)] : List (S55))))
theorem own_blk {W : World} {g B n size : Nat} {e : TypeId} {cs : Array Value} (h : H.Blk W g e cs) (hB : B ≤ g) (hm : n ≤ maxLen) (hs : cs.size = n * size) : W.ownsRow B e size (.slice (some ⟨g, 0, none⟩) n n) n cs.toList :=
  ⟨by simpa using hs, .inr ⟨g, n, cs, rfl, hB, h, Nat.le_refl _, hm, hs, List.take_of_length_le (by rw [Array.length_toList, hs]; exact Nat.le_refl _)⟩⟩
set_option maxHeartbeats 4000000 in
set_option maxRecDepth 100000 in
theorem sums_walk (w : World) : Calls Try.prog 29 #[] w fun e W => e = .returned (.agg #[.int .i64 2, .int .i64 3, .int .i64 2, .slice (some ⟨w.heap.size + 3, 0, none⟩) 2 2]) ∧ H.Blk W (w.heap.size + 1) 3 #[.int .i64 2, .int .i64 1, .int .i64 2] ∧ H.Blk W (w.heap.size + 2) 3 #[.int .i64 0] ∧
    H.Blk W (w.heap.size + 3) 55 #[.int .i64 2, .slice (some ⟨w.heap.size + 1, 0, none⟩) 3 3, .bool false, .int .i64 2, .slice (some ⟨w.heap.size + 2, 0, none⟩) 1 1, .bool false] ∧ Below w.heap.size w W := by
  go_enter Try.func29, Try.ntmps29
  go_wp2
  refine bodyPost_ret (results_cell_row rfl _ _ w.heap.size 24 #[.int .i64 2, .int .i64 3, .int .i64 2, .slice (some ⟨w.heap.size + 3, 0, none⟩) 2 2] (0, 0) _ rfl (((H.Blk.new _ _ _).alloc _).alloc _ |>.alloc _) Try.underlying24 rfl (by kernel_rfl)) rfl ?_
  refine ⟨rfl, ((H.Blk.newAt (by simp)).alloc _).alloc _, (H.Blk.newAt (by simp)).alloc _, H.Blk.newAt (by simp), ((((Below.refl _ _).alloc (Nat.le_refl _) _).alloc (by simp) _).alloc (by simp; omega) _).alloc (by simp; omega) _⟩
theorem rootstocklaw14_Sums.calls  (r1 : Int) (r2 : Int) (r3 : Int) (r4 : List (S55)) (w : World) (h : rootstocklaw14_Sums.f  = some (r1, r2, r3, r4)) :
    Calls Try.prog 29 #[] w fun e w' => ∃ v3_ : Value, e = .returned (.agg #[.int .i64 r1, .int .i64 r2, .int .i64 r3, v3_]) ∧ Kd.R k55 55 w' w.heap.size (fun _ => True) v3_ r4 ∧ Below w.heap.size w w' := by
  have h' := Option.some.inj h
  simp only [Prod.mk.injEq] at h'
  obtain ⟨rfl, rfl, rfl, rfl⟩ := h'
  refine (sums_walk w).mono ?_
  rintro e W ⟨rfl, b1, b2, b3, hb⟩
  refine ⟨_, rfl, ⟨fun k hk => trivial, _, own_blk b3 (by omega) (by decide) rfl, ?_⟩, hb⟩
  · have r1 : (Kd.int .i64).R 3 W w.heap.size (fun k => True ∧ some k ≠ (Value.slice (some ⟨w.heap.size + 3, 0, none⟩) 2 2).ownBlock) (.slice (some ⟨w.heap.size + 1, 0, none⟩) 3 3) [2, 1, 2] := Kd.R_of_own (own_blk b1 (by omega) (by decide) rfl) (fun k hk => by simp [Value.ownBlock] at hk ⊢; omega)
    have r2 : (Kd.int .i64).R 3 W w.heap.size (fun k => True ∧ some k ≠ (Value.slice (some ⟨w.heap.size + 3, 0, none⟩) 2 2).ownBlock) (.slice (some ⟨w.heap.size + 2, 0, none⟩) 1 1) [0] := Kd.R_of_own (own_blk b2 (by omega) (by decide) rfl) (fun k hk => by simp [Value.ownBlock] at hk ⊢; omega)
    exact Reps.c3 (k55_mkM _ _ _ ⟨2, [2, 1, 2], false⟩ r1) (Reps.c3 (k55_mkM _ _ _ ⟨2, [0], false⟩ r2) (Reps.none _ _))
noncomputable def rootstocklaw14_lives.f (k : Nat)  : Option (Bool) := (rootstocklaw14_Sums.f).bind fun bt117 => ((rootstocklaw14_Sum.f k 2).bind fun t124 => ((derive_Derives.f bt117.1 bt117.2.1 bt117.2.2.1 bt117.2.2.2 2 t124).bind fun bt127 => ((derive_Derives.f bt117.1 bt117.2.1 bt117.2.2.1 bt117.2.2.2 2 (([0, 1] : List Int))).bind fun bt132 => ((derive_Viable.f bt117.1 bt117.2.1 bt117.2.2.1 bt117.2.2.2 (([0, 1] : List Int))).bind fun bt137 => ((derive_Judge.f k bt117.1 bt117.2.1 bt117.2.2.1 bt117.2.2.2 (([0, 0] : List Int))).bind fun bt142 => ((rootstocklaw14_Sum.f k 3).bind fun t146 => ((derive_Count.f bt117.1 bt117.2.1 bt117.2.2.1 bt117.2.2.2 2 t146).bind fun bt149 => ((derive_Derives.f bt117.1 bt117.2.1 bt117.2.2.1 bt117.2.2.2 3 ([] : List Int)).bind fun bt151 => (if bt127.1 = true then (if bt132.1 = true then (some false) else (if bt137.1 = true then (if bt149.1 = 2 then (if (!bt142.1 && (bt142.2.1 == 1)) = true then (if bt127.2 = 0 then (if bt132.2 = 0 then (if bt137.2 = 0 then (if bt142.2.2 = 0 then (if bt149.2 = 0 then (if bt151.2 = 2 then ((derive_Fits.f bt117.1 bt117.2.1 bt117.2.2.1 bt117.2.2.2 0 (-1) ([] : List (S43))).bind fun t153 => (if t153 = 0 then ((derive_Yield.f 0 0 ([] : List (S43))).bind fun t154 => (some ((t154.length : Int) == 1))) else (some false))) else (some false)) else (some false)) else (some false)) else (some false)) else (some false)) else (some false)) else (some false)) else (some false)) else (some false))) else (some false))))))))))
def rootstocklaw14_lives.T2 : Bool × List (List Nat × List Nat) := (true, [([], []), ([], []), ([0, 1, 1], [0, 1]), ([2], [2]), ([3], [3]), ([3], [3]), ([4, 2, 0, 1, 2, 3, 4], [4]), ([5, 6, 0, 1, 2, 3, 4, 5, 6], [5])])
def rootstocklaw14_lives.B2 : List Nat := [0, 0, 3, 7, 15, 15, 31, 127]
theorem rootstocklaw14_lives.tab2 : rtab .any (opsOf Try.f10 2) = rootstocklaw14_lives.T2 := by kernel_rfl
theorem rootstocklaw14_lives.bits2 : waitsOk rootstocklaw14_lives.T2.2 rootstocklaw14_lives.B2 = true := by kernel_rfl
def rootstocklaw14_lives.T6 : Bool × List (List Nat × List Nat) := (true, [([], []), ([], []), ([0, 1, 1], [0, 1]), ([2], [2]), ([3], [3]), ([3], [3]), ([4, 2, 0, 1, 2, 3, 4], [4]), ([5, 6, 0, 1, 2, 3, 4, 5, 6], [5])])
def rootstocklaw14_lives.B6 : List Nat := [0, 0, 3, 7, 15, 15, 31, 127]
theorem rootstocklaw14_lives.tab6 : rtab .any (opsOf Try.f10 6) = rootstocklaw14_lives.T6 := by kernel_rfl
theorem rootstocklaw14_lives.bits6 : waitsOk rootstocklaw14_lives.T6.2 rootstocklaw14_lives.B6 = true := by kernel_rfl
set_option maxHeartbeats 8000000 in
set_option maxRecDepth 100000 in
theorem rootstocklaw14_lives.calls (k : Nat)  (r : Bool) (w : World) (hrt_ : r = true) (h : rootstocklaw14_lives.f k  = some r) :
    Calls Try.prog 10 #[] w fun e w' => e = .returned (.bool r) ∧ Below w.heap.size w w' := by
 have HRT := Aside0.mk hrt_
 clear hrt_
 have hu24 := Try.underlying24
 have hu35 := Try.underlying35
 have hu43 := Try.underlying43
 have HB := Aside0.mk (Below.refl w.heap.size w)
 have H : ((rootstocklaw14_Sums.f).bind fun bt117 => ((rootstocklaw14_Sum.f k 2).bind fun t124 => ((derive_Derives.f bt117.1 bt117.2.1 bt117.2.2.1 bt117.2.2.2 2 t124).bind fun bt127 => ((derive_Derives.f bt117.1 bt117.2.1 bt117.2.2.1 bt117.2.2.2 2 (([0, 1] : List Int))).bind fun bt132 => ((derive_Viable.f bt117.1 bt117.2.1 bt117.2.2.1 bt117.2.2.2 (([0, 1] : List Int))).bind fun bt137 => ((derive_Judge.f k bt117.1 bt117.2.1 bt117.2.2.1 bt117.2.2.2 (([0, 0] : List Int))).bind fun bt142 => ((rootstocklaw14_Sum.f k 3).bind fun t146 => ((derive_Count.f bt117.1 bt117.2.1 bt117.2.2.1 bt117.2.2.2 2 t146).bind fun bt149 => ((derive_Derives.f bt117.1 bt117.2.1 bt117.2.2.1 bt117.2.2.2 3 ([] : List Int)).bind fun bt151 => (if bt127.1 = true then (if bt132.1 = true then (some false) else (if bt137.1 = true then (if bt149.1 = 2 then (if (!bt142.1 && (bt142.2.1 == 1)) = true then (if bt127.2 = 0 then (if bt132.2 = 0 then (if bt137.2 = 0 then (if bt142.2.2 = 0 then (if bt149.2 = 0 then (if bt151.2 = 2 then ((derive_Fits.f bt117.1 bt117.2.1 bt117.2.2.1 bt117.2.2.2 0 (-1) ([] : List (S43))).bind fun t153 => (if t153 = 0 then ((derive_Yield.f 0 0 ([] : List (S43))).bind fun t154 => (some ((t154.length : Int) == 1))) else (some false))) else (some false)) else (some false)) else (some false)) else (some false)) else (some false)) else (some false)) else (some false)) else (some false)) else (some false))) else (some false))))))))))) = some r := h
 clear h
 replace H := Option.bind_eq_some_iff.mp H
 obtain ⟨⟨t117, t118, t119, t120⟩, A10, H⟩ := H
 replace H : ((rootstocklaw14_Sum.f k 2).bind fun t124 => ((derive_Derives.f t117 t118 t119 t120 2 t124).bind fun bt127 => ((derive_Derives.f t117 t118 t119 t120 2 (([0, 1] : List Int))).bind fun bt132 => ((derive_Viable.f t117 t118 t119 t120 (([0, 1] : List Int))).bind fun bt137 => ((derive_Judge.f k t117 t118 t119 t120 (([0, 0] : List Int))).bind fun bt142 => ((rootstocklaw14_Sum.f k 3).bind fun t146 => ((derive_Count.f t117 t118 t119 t120 2 t146).bind fun bt149 => ((derive_Derives.f t117 t118 t119 t120 3 ([] : List Int)).bind fun bt151 => (if bt127.1 = true then (if bt132.1 = true then (some false) else (if bt137.1 = true then (if bt149.1 = 2 then (if (!bt142.1 && (bt142.2.1 == 1)) = true then (if bt127.2 = 0 then (if bt132.2 = 0 then (if bt137.2 = 0 then (if bt142.2.2 = 0 then (if bt149.2 = 0 then (if bt151.2 = 2 then ((derive_Fits.f t117 t118 t119 t120 0 (-1) ([] : List (S43))).bind fun t153 => (if t153 = 0 then ((derive_Yield.f 0 0 ([] : List (S43))).bind fun t154 => (some ((t154.length : Int) == 1))) else (some false))) else (some false)) else (some false)) else (some false)) else (some false)) else (some false)) else (some false)) else (some false)) else (some false)) else (some false))) else (some false)))))))))) = some r := H
 have A1 := Aside0.mk A10
 clear A10
 replace H := Option.bind_eq_some_iff.mp H
 obtain ⟨t124, A20, H⟩ := H
 replace H : ((derive_Derives.f t117 t118 t119 t120 2 t124).bind fun bt127 => ((derive_Derives.f t117 t118 t119 t120 2 (([0, 1] : List Int))).bind fun bt132 => ((derive_Viable.f t117 t118 t119 t120 (([0, 1] : List Int))).bind fun bt137 => ((derive_Judge.f k t117 t118 t119 t120 (([0, 0] : List Int))).bind fun bt142 => ((rootstocklaw14_Sum.f k 3).bind fun t146 => ((derive_Count.f t117 t118 t119 t120 2 t146).bind fun bt149 => ((derive_Derives.f t117 t118 t119 t120 3 ([] : List Int)).bind fun bt151 => (if bt127.1 = true then (if bt132.1 = true then (some false) else (if bt137.1 = true then (if bt149.1 = 2 then (if (!bt142.1 && (bt142.2.1 == 1)) = true then (if bt127.2 = 0 then (if bt132.2 = 0 then (if bt137.2 = 0 then (if bt142.2.2 = 0 then (if bt149.2 = 0 then (if bt151.2 = 2 then ((derive_Fits.f t117 t118 t119 t120 0 (-1) ([] : List (S43))).bind fun t153 => (if t153 = 0 then ((derive_Yield.f 0 0 ([] : List (S43))).bind fun t154 => (some ((t154.length : Int) == 1))) else (some false))) else (some false)) else (some false)) else (some false)) else (some false)) else (some false)) else (some false)) else (some false)) else (some false)) else (some false))) else (some false))))))))) = some r := H
 have A2 := Aside0.mk A20
 clear A20
 replace H := Option.bind_eq_some_iff.mp H
 obtain ⟨⟨t127, t128⟩, A30, H⟩ := H
 replace H : ((derive_Derives.f t117 t118 t119 t120 2 (([0, 1] : List Int))).bind fun bt132 => ((derive_Viable.f t117 t118 t119 t120 (([0, 1] : List Int))).bind fun bt137 => ((derive_Judge.f k t117 t118 t119 t120 (([0, 0] : List Int))).bind fun bt142 => ((rootstocklaw14_Sum.f k 3).bind fun t146 => ((derive_Count.f t117 t118 t119 t120 2 t146).bind fun bt149 => ((derive_Derives.f t117 t118 t119 t120 3 ([] : List Int)).bind fun bt151 => (if t127 = true then (if bt132.1 = true then (some false) else (if bt137.1 = true then (if bt149.1 = 2 then (if (!bt142.1 && (bt142.2.1 == 1)) = true then (if t128 = 0 then (if bt132.2 = 0 then (if bt137.2 = 0 then (if bt142.2.2 = 0 then (if bt149.2 = 0 then (if bt151.2 = 2 then ((derive_Fits.f t117 t118 t119 t120 0 (-1) ([] : List (S43))).bind fun t153 => (if t153 = 0 then ((derive_Yield.f 0 0 ([] : List (S43))).bind fun t154 => (some ((t154.length : Int) == 1))) else (some false))) else (some false)) else (some false)) else (some false)) else (some false)) else (some false)) else (some false)) else (some false)) else (some false)) else (some false))) else (some false)))))))) = some r := H
 have A3 := Aside0.mk A30
 clear A30
 obtain ⟨y129, hy129⟩ : ∃ y_ : List Int, y_ = (([0, 1] : List Int)) := ⟨_, rfl⟩
 replace H : ((derive_Derives.f t117 t118 t119 t120 2 y129).bind fun bt132 => ((derive_Viable.f t117 t118 t119 t120 (([0, 1] : List Int))).bind fun bt137 => ((derive_Judge.f k t117 t118 t119 t120 (([0, 0] : List Int))).bind fun bt142 => ((rootstocklaw14_Sum.f k 3).bind fun t146 => ((derive_Count.f t117 t118 t119 t120 2 t146).bind fun bt149 => ((derive_Derives.f t117 t118 t119 t120 3 ([] : List Int)).bind fun bt151 => (if t127 = true then (if bt132.1 = true then (some false) else (if bt137.1 = true then (if bt149.1 = 2 then (if (!bt142.1 && (bt142.2.1 == 1)) = true then (if t128 = 0 then (if bt132.2 = 0 then (if bt137.2 = 0 then (if bt142.2.2 = 0 then (if bt149.2 = 0 then (if bt151.2 = 2 then ((derive_Fits.f t117 t118 t119 t120 0 (-1) ([] : List (S43))).bind fun t153 => (if t153 = 0 then ((derive_Yield.f 0 0 ([] : List (S43))).bind fun t154 => (some ((t154.length : Int) == 1))) else (some false))) else (some false)) else (some false)) else (some false)) else (some false)) else (some false)) else (some false)) else (some false)) else (some false)) else (some false))) else (some false)))))))) = some r := by first | (rw [hy129]; with_reducible exact H) | (have H2_ := (Option.bind_some _ _).symm.trans H; rw [hy129]; with_reducible exact H2_) | (have H2_ := (Option.bind_some _ _).symm.trans H; with_reducible exact H2_) | with_reducible exact H | (rw [hy129]; exact H) | exact H
 have Ny129 := Aside0.mk hy129
 clear hy129
 replace H := Option.bind_eq_some_iff.mp H
 obtain ⟨⟨t132, t133⟩, A40, H⟩ := H
 replace H : ((derive_Viable.f t117 t118 t119 t120 (([0, 1] : List Int))).bind fun bt137 => ((derive_Judge.f k t117 t118 t119 t120 (([0, 0] : List Int))).bind fun bt142 => ((rootstocklaw14_Sum.f k 3).bind fun t146 => ((derive_Count.f t117 t118 t119 t120 2 t146).bind fun bt149 => ((derive_Derives.f t117 t118 t119 t120 3 ([] : List Int)).bind fun bt151 => (if t127 = true then (if t132 = true then (some false) else (if bt137.1 = true then (if bt149.1 = 2 then (if (!bt142.1 && (bt142.2.1 == 1)) = true then (if t128 = 0 then (if t133 = 0 then (if bt137.2 = 0 then (if bt142.2.2 = 0 then (if bt149.2 = 0 then (if bt151.2 = 2 then ((derive_Fits.f t117 t118 t119 t120 0 (-1) ([] : List (S43))).bind fun t153 => (if t153 = 0 then ((derive_Yield.f 0 0 ([] : List (S43))).bind fun t154 => (some ((t154.length : Int) == 1))) else (some false))) else (some false)) else (some false)) else (some false)) else (some false)) else (some false)) else (some false)) else (some false)) else (some false)) else (some false))) else (some false))))))) = some r := H
 have A4 := Aside0.mk A40
 clear A40
 obtain ⟨y134, hy134⟩ : ∃ y_ : List Int, y_ = (([0, 1] : List Int)) := ⟨_, rfl⟩
 replace H : ((derive_Viable.f t117 t118 t119 t120 y134).bind fun bt137 => ((derive_Judge.f k t117 t118 t119 t120 (([0, 0] : List Int))).bind fun bt142 => ((rootstocklaw14_Sum.f k 3).bind fun t146 => ((derive_Count.f t117 t118 t119 t120 2 t146).bind fun bt149 => ((derive_Derives.f t117 t118 t119 t120 3 ([] : List Int)).bind fun bt151 => (if t127 = true then (if t132 = true then (some false) else (if bt137.1 = true then (if bt149.1 = 2 then (if (!bt142.1 && (bt142.2.1 == 1)) = true then (if t128 = 0 then (if t133 = 0 then (if bt137.2 = 0 then (if bt142.2.2 = 0 then (if bt149.2 = 0 then (if bt151.2 = 2 then ((derive_Fits.f t117 t118 t119 t120 0 (-1) ([] : List (S43))).bind fun t153 => (if t153 = 0 then ((derive_Yield.f 0 0 ([] : List (S43))).bind fun t154 => (some ((t154.length : Int) == 1))) else (some false))) else (some false)) else (some false)) else (some false)) else (some false)) else (some false)) else (some false)) else (some false)) else (some false)) else (some false))) else (some false))))))) = some r := by first | (rw [hy134]; with_reducible exact H) | (have H2_ := (Option.bind_some _ _).symm.trans H; rw [hy134]; with_reducible exact H2_) | (have H2_ := (Option.bind_some _ _).symm.trans H; with_reducible exact H2_) | with_reducible exact H | (rw [hy134]; exact H) | exact H
 have Ny134 := Aside0.mk hy134
 clear hy134
 replace H := Option.bind_eq_some_iff.mp H
 obtain ⟨⟨t137, t138⟩, A50, H⟩ := H
 replace H : ((derive_Judge.f k t117 t118 t119 t120 (([0, 0] : List Int))).bind fun bt142 => ((rootstocklaw14_Sum.f k 3).bind fun t146 => ((derive_Count.f t117 t118 t119 t120 2 t146).bind fun bt149 => ((derive_Derives.f t117 t118 t119 t120 3 ([] : List Int)).bind fun bt151 => (if t127 = true then (if t132 = true then (some false) else (if t137 = true then (if bt149.1 = 2 then (if (!bt142.1 && (bt142.2.1 == 1)) = true then (if t128 = 0 then (if t133 = 0 then (if t138 = 0 then (if bt142.2.2 = 0 then (if bt149.2 = 0 then (if bt151.2 = 2 then ((derive_Fits.f t117 t118 t119 t120 0 (-1) ([] : List (S43))).bind fun t153 => (if t153 = 0 then ((derive_Yield.f 0 0 ([] : List (S43))).bind fun t154 => (some ((t154.length : Int) == 1))) else (some false))) else (some false)) else (some false)) else (some false)) else (some false)) else (some false)) else (some false)) else (some false)) else (some false)) else (some false))) else (some false)))))) = some r := H
 have A5 := Aside0.mk A50
 clear A50
 obtain ⟨y139, hy139⟩ : ∃ y_ : List Int, y_ = (([0, 0] : List Int)) := ⟨_, rfl⟩
 replace H : ((derive_Judge.f k t117 t118 t119 t120 y139).bind fun bt142 => ((rootstocklaw14_Sum.f k 3).bind fun t146 => ((derive_Count.f t117 t118 t119 t120 2 t146).bind fun bt149 => ((derive_Derives.f t117 t118 t119 t120 3 ([] : List Int)).bind fun bt151 => (if t127 = true then (if t132 = true then (some false) else (if t137 = true then (if bt149.1 = 2 then (if (!bt142.1 && (bt142.2.1 == 1)) = true then (if t128 = 0 then (if t133 = 0 then (if t138 = 0 then (if bt142.2.2 = 0 then (if bt149.2 = 0 then (if bt151.2 = 2 then ((derive_Fits.f t117 t118 t119 t120 0 (-1) ([] : List (S43))).bind fun t153 => (if t153 = 0 then ((derive_Yield.f 0 0 ([] : List (S43))).bind fun t154 => (some ((t154.length : Int) == 1))) else (some false))) else (some false)) else (some false)) else (some false)) else (some false)) else (some false)) else (some false)) else (some false)) else (some false)) else (some false))) else (some false)))))) = some r := by first | (rw [hy139]; with_reducible exact H) | (have H2_ := (Option.bind_some _ _).symm.trans H; rw [hy139]; with_reducible exact H2_) | (have H2_ := (Option.bind_some _ _).symm.trans H; with_reducible exact H2_) | with_reducible exact H | (rw [hy139]; exact H) | exact H
 have Ny139 := Aside0.mk hy139
 clear hy139
 replace H := Option.bind_eq_some_iff.mp H
 obtain ⟨⟨t142, t143, t144⟩, A60, H⟩ := H
 replace H : ((rootstocklaw14_Sum.f k 3).bind fun t146 => ((derive_Count.f t117 t118 t119 t120 2 t146).bind fun bt149 => ((derive_Derives.f t117 t118 t119 t120 3 ([] : List Int)).bind fun bt151 => (if t127 = true then (if t132 = true then (some false) else (if t137 = true then (if bt149.1 = 2 then (if (!t142 && (t143 == 1)) = true then (if t128 = 0 then (if t133 = 0 then (if t138 = 0 then (if t144 = 0 then (if bt149.2 = 0 then (if bt151.2 = 2 then ((derive_Fits.f t117 t118 t119 t120 0 (-1) ([] : List (S43))).bind fun t153 => (if t153 = 0 then ((derive_Yield.f 0 0 ([] : List (S43))).bind fun t154 => (some ((t154.length : Int) == 1))) else (some false))) else (some false)) else (some false)) else (some false)) else (some false)) else (some false)) else (some false)) else (some false)) else (some false)) else (some false))) else (some false))))) = some r := H
 have A6 := Aside0.mk A60
 clear A60
 replace H := Option.bind_eq_some_iff.mp H
 obtain ⟨t146, A70, H⟩ := H
 replace H : ((derive_Count.f t117 t118 t119 t120 2 t146).bind fun bt149 => ((derive_Derives.f t117 t118 t119 t120 3 ([] : List Int)).bind fun bt151 => (if t127 = true then (if t132 = true then (some false) else (if t137 = true then (if bt149.1 = 2 then (if (!t142 && (t143 == 1)) = true then (if t128 = 0 then (if t133 = 0 then (if t138 = 0 then (if t144 = 0 then (if bt149.2 = 0 then (if bt151.2 = 2 then ((derive_Fits.f t117 t118 t119 t120 0 (-1) ([] : List (S43))).bind fun t153 => (if t153 = 0 then ((derive_Yield.f 0 0 ([] : List (S43))).bind fun t154 => (some ((t154.length : Int) == 1))) else (some false))) else (some false)) else (some false)) else (some false)) else (some false)) else (some false)) else (some false)) else (some false)) else (some false)) else (some false))) else (some false)))) = some r := H
 have A7 := Aside0.mk A70
 clear A70
 replace H := Option.bind_eq_some_iff.mp H
 obtain ⟨⟨t149, t150⟩, A80, H⟩ := H
 replace H : ((derive_Derives.f t117 t118 t119 t120 3 ([] : List Int)).bind fun bt151 => (if t127 = true then (if t132 = true then (some false) else (if t137 = true then (if t149 = 2 then (if (!t142 && (t143 == 1)) = true then (if t128 = 0 then (if t133 = 0 then (if t138 = 0 then (if t144 = 0 then (if t150 = 0 then (if bt151.2 = 2 then ((derive_Fits.f t117 t118 t119 t120 0 (-1) ([] : List (S43))).bind fun t153 => (if t153 = 0 then ((derive_Yield.f 0 0 ([] : List (S43))).bind fun t154 => (some ((t154.length : Int) == 1))) else (some false))) else (some false)) else (some false)) else (some false)) else (some false)) else (some false)) else (some false)) else (some false)) else (some false)) else (some false))) else (some false))) = some r := H
 have A8 := Aside0.mk A80
 clear A80
 replace H := Option.bind_eq_some_iff.mp H
 obtain ⟨⟨t151, t152⟩, A90, H⟩ := H
 replace H : (if t127 = true then (if t132 = true then (some false) else (if t137 = true then (if t149 = 2 then (if (!t142 && (t143 == 1)) = true then (if t128 = 0 then (if t133 = 0 then (if t138 = 0 then (if t144 = 0 then (if t150 = 0 then (if t152 = 2 then ((derive_Fits.f t117 t118 t119 t120 0 (-1) ([] : List (S43))).bind fun t153 => (if t153 = 0 then ((derive_Yield.f 0 0 ([] : List (S43))).bind fun t154 => (some ((t154.length : Int) == 1))) else (some false))) else (some false)) else (some false)) else (some false)) else (some false)) else (some false)) else (some false)) else (some false)) else (some false)) else (some false))) else (some false)) = some r := H
 have A9 := Aside0.mk A90
 clear A90
 by_cases c10 : t127 = true
 rotate_left
 · replace c10 := Bool.eq_false_iff.mpr c10
   subst c10
   have H1 : (some false) = some r := by rw [if_neg (show ¬ (false = true) by decide)] at H; exact H
   clear H
   have H := H1
   clear H1
   exact absurd ((Option.some.inj H).trans HRT.out) (by decide)
 subst c10
 have H1 : (if t132 = true then (some false) else (if t137 = true then (if t149 = 2 then (if (!t142 && (t143 == 1)) = true then (if t128 = 0 then (if t133 = 0 then (if t138 = 0 then (if t144 = 0 then (if t150 = 0 then (if t152 = 2 then ((derive_Fits.f t117 t118 t119 t120 0 (-1) ([] : List (S43))).bind fun t153 => (if t153 = 0 then ((derive_Yield.f 0 0 ([] : List (S43))).bind fun t154 => (some ((t154.length : Int) == 1))) else (some false))) else (some false)) else (some false)) else (some false)) else (some false)) else (some false)) else (some false)) else (some false)) else (some false)) else (some false))) = some r := by rw [if_pos rfl] at H; exact H
 clear H
 have H := H1
 clear H1
 by_cases c11 : t132 = true
 · subst c11
   have H1 : (some false) = some r := by rw [if_pos rfl] at H; exact H
   clear H
   have H := H1
   clear H1
   exact absurd ((Option.some.inj H).trans HRT.out) (by decide)
 replace c11 := Bool.eq_false_iff.mpr c11
 subst c11
 have H1 : (if t137 = true then (if t149 = 2 then (if (!t142 && (t143 == 1)) = true then (if t128 = 0 then (if t133 = 0 then (if t138 = 0 then (if t144 = 0 then (if t150 = 0 then (if t152 = 2 then ((derive_Fits.f t117 t118 t119 t120 0 (-1) ([] : List (S43))).bind fun t153 => (if t153 = 0 then ((derive_Yield.f 0 0 ([] : List (S43))).bind fun t154 => (some ((t154.length : Int) == 1))) else (some false))) else (some false)) else (some false)) else (some false)) else (some false)) else (some false)) else (some false)) else (some false)) else (some false)) else (some false)) = some r := by rw [if_neg (show ¬ (false = true) by decide)] at H; exact H
 clear H
 have H := H1
 clear H1
 by_cases c12 : t137 = true
 rotate_left
 · replace c12 := Bool.eq_false_iff.mpr c12
   subst c12
   have H1 : (some false) = some r := by rw [if_neg (show ¬ (false = true) by decide)] at H; exact H
   clear H
   have H := H1
   clear H1
   exact absurd ((Option.some.inj H).trans HRT.out) (by decide)
 subst c12
 have H1 : (if t149 = 2 then (if (!t142 && (t143 == 1)) = true then (if t128 = 0 then (if t133 = 0 then (if t138 = 0 then (if t144 = 0 then (if t150 = 0 then (if t152 = 2 then ((derive_Fits.f t117 t118 t119 t120 0 (-1) ([] : List (S43))).bind fun t153 => (if t153 = 0 then ((derive_Yield.f 0 0 ([] : List (S43))).bind fun t154 => (some ((t154.length : Int) == 1))) else (some false))) else (some false)) else (some false)) else (some false)) else (some false)) else (some false)) else (some false)) else (some false)) else (some false)) = some r := by rw [if_pos rfl] at H; exact H
 clear H
 have H := H1
 clear H1
 by_cases c13 : t149 = 2
 rotate_left
 · rw [if_neg c13] at H
   have c13b0 : (t149 == 2) = false := beq_eq_false_iff_ne.mpr c13
   have c13b1 : (t149 != 2) = true := bne_iff_ne.mpr c13
   exact absurd ((Option.some.inj H).trans HRT.out) (by decide)
 rw [if_pos c13] at H
 have c13b0 : (t149 == 2) = true := beq_iff_eq.mpr c13
 have c13b1 : (t149 != 2) = false := bne_eq_false_iff_eq.mpr c13
 clear c13
 by_cases c14 : (!t142 && (t143 == 1)) = true
 rotate_left
 · rw [if_neg c14] at H
   have c14b0 : (!t142 && (t143 == 1)) = false := by simpa using c14
   clear c14
   exact absurd ((Option.some.inj H).trans HRT.out) (by decide)
 rw [if_pos c14] at H
 have c14b0 : (!t142 && (t143 == 1)) = true := c14
 clear c14
 by_cases c15 : t128 = 0
 rotate_left
 · rw [if_neg c15] at H
   have c15b0 : (t128 == 0) = false := beq_eq_false_iff_ne.mpr c15
   have c15b1 : (t128 != 0) = true := bne_iff_ne.mpr c15
   exact absurd ((Option.some.inj H).trans HRT.out) (by decide)
 rw [if_pos c15] at H
 have c15b0 : (t128 == 0) = true := beq_iff_eq.mpr c15
 have c15b1 : (t128 != 0) = false := bne_eq_false_iff_eq.mpr c15
 clear c15
 by_cases c16 : t133 = 0
 rotate_left
 · rw [if_neg c16] at H
   have c16b0 : (t133 == 0) = false := beq_eq_false_iff_ne.mpr c16
   have c16b1 : (t133 != 0) = true := bne_iff_ne.mpr c16
   exact absurd ((Option.some.inj H).trans HRT.out) (by decide)
 rw [if_pos c16] at H
 have c16b0 : (t133 == 0) = true := beq_iff_eq.mpr c16
 have c16b1 : (t133 != 0) = false := bne_eq_false_iff_eq.mpr c16
 clear c16
 by_cases c17 : t138 = 0
 rotate_left
 · rw [if_neg c17] at H
   have c17b0 : (t138 == 0) = false := beq_eq_false_iff_ne.mpr c17
   have c17b1 : (t138 != 0) = true := bne_iff_ne.mpr c17
   exact absurd ((Option.some.inj H).trans HRT.out) (by decide)
 rw [if_pos c17] at H
 have c17b0 : (t138 == 0) = true := beq_iff_eq.mpr c17
 have c17b1 : (t138 != 0) = false := bne_eq_false_iff_eq.mpr c17
 clear c17
 by_cases c18 : t144 = 0
 rotate_left
 · rw [if_neg c18] at H
   have c18b0 : (t144 == 0) = false := beq_eq_false_iff_ne.mpr c18
   have c18b1 : (t144 != 0) = true := bne_iff_ne.mpr c18
   exact absurd ((Option.some.inj H).trans HRT.out) (by decide)
 rw [if_pos c18] at H
 have c18b0 : (t144 == 0) = true := beq_iff_eq.mpr c18
 have c18b1 : (t144 != 0) = false := bne_eq_false_iff_eq.mpr c18
 clear c18
 by_cases c19 : t150 = 0
 rotate_left
 · rw [if_neg c19] at H
   have c19b0 : (t150 == 0) = false := beq_eq_false_iff_ne.mpr c19
   have c19b1 : (t150 != 0) = true := bne_iff_ne.mpr c19
   exact absurd ((Option.some.inj H).trans HRT.out) (by decide)
 rw [if_pos c19] at H
 have c19b0 : (t150 == 0) = true := beq_iff_eq.mpr c19
 have c19b1 : (t150 != 0) = false := bne_eq_false_iff_eq.mpr c19
 clear c19
 by_cases c20 : t152 = 2
 rotate_left
 · rw [if_neg c20] at H
   have c20b0 : (t152 == 2) = false := beq_eq_false_iff_ne.mpr c20
   have c20b1 : (t152 != 2) = true := bne_iff_ne.mpr c20
   exact absurd ((Option.some.inj H).trans HRT.out) (by decide)
 rw [if_pos c20] at H
 have c20b0 : (t152 == 2) = true := beq_iff_eq.mpr c20
 have c20b1 : (t152 != 2) = false := bne_eq_false_iff_eq.mpr c20
 clear c20
 replace H := Option.bind_eq_some_iff.mp H
 obtain ⟨t153, A210, H⟩ := H
 replace H : (if t153 = 0 then ((derive_Yield.f 0 0 ([] : List (S43))).bind fun t154 => (some ((t154.length : Int) == 1))) else (some false)) = some r := H
 have A21 := Aside0.mk A210
 clear A210
 by_cases c22 : t153 = 0
 rotate_left
 · rw [if_neg c22] at H
   have c22b0 : (t153 == 0) = false := beq_eq_false_iff_ne.mpr c22
   have c22b1 : (t153 != 0) = true := bne_iff_ne.mpr c22
   exact absurd ((Option.some.inj H).trans HRT.out) (by decide)
 rw [if_pos c22] at H
 have c22b0 : (t153 == 0) = true := beq_iff_eq.mpr c22
 have c22b1 : (t153 != 0) = false := bne_eq_false_iff_eq.mpr c22
 clear c22
 replace H := Option.bind_eq_some_iff.mp H
 obtain ⟨t154, A230, H⟩ := H
 replace H : (some ((t154.length : Int) == 1)) = some r := H
 have A23 := Aside0.mk A230
 clear A230
 as_aux_lemma =>
  obtain rfl := Option.some.inj H
  go_enter Try.func10, Try.ntmps10
  try go_wp2_with (first | ((with_reducible refine gate_callee (f := 29) rfl ?_); refine goesL_ (some 14) rfl rfl Try.func29 (by kernel_rfl) rfl #[] rfl (by (try simp only [List.map_toArray, List.map_cons, List.map_nil]); first | done | rfl | (simp only [List.length_drop, List.length_take]; rfl)) ?_; (with_reducible refine (rootstocklaw14_Sums.calls  t117 t118 t119 t120 _ A1.out).mono ?_); rintro e w24 ⟨v121, rfl, ho0, hb⟩; refine ⟨_, rfl, ?_⟩; have n0_ := Aside0.mk (Kd.R_lower ho0 (below_size (by repeat (first | (with_reducible first | exact HB.out | apply below_alloc | apply pw_below_drewN | apply below_drew1) | exact HB.out)))); have n1_ := Aside0.mk (below_step (by repeat (first | (with_reducible first | exact HB.out | apply below_alloc | apply pw_below_drewN | apply below_drew1) | exact HB.out)) hb); clear HB; have HO122 := n0_; have HB := n1_; clear n0_ n1_; (try clear hb); (try clear hb2); (try clear hk); (try clear hi); (try clear ho0)) | ((with_reducible refine gate_dst (N := 1) rfl ?_); (try (refine gate_guard (by rfl) ?_; dsimp only)); refine box_event ?hg (N := 1) ?hd (cs := #[.int .i64 0, .int .i64 0, .int .i64 0, .slice none 0 0]) (t := 24) ?hr ?_; (case hd => rfl); (case hg => rfl); (case hr => first | (go_simp; done) | (go_simp; rfl)); intro gb123 hg w25 hbox hb; have n0_ := Aside0.mk (Kd.R_below (by (with_reducible repeat (first | apply Kd.R_alloc | apply Kd.R_drewN | apply Kd.R_drew)); exact HO122.out) hb); have n1_ := Aside0.mk (below_step (by repeat (first | (with_reducible first | exact HB.out | apply below_alloc | apply pw_below_drewN | apply below_drew1) | exact HB.out)) hb); have n2_ := Aside0.mk (hbox); have n3_ := Aside0.mk ((by rw [hg]; exact (below_size (by repeat (first | (with_reducible first | exact HB.out | apply below_alloc | apply pw_below_drewN | apply below_drew1) | exact HB.out))) : w.heap.size ≤ gb123)); have n4_ := Aside0.mk ((by rw [hg]; exact (below_size (by repeat (first | (with_reducible first | exact HB.out | apply below_alloc | apply pw_below_drewN | apply below_drew1) | exact HB.out))) : w.heap.size ≤ gb123)); clear HO122; clear HB; have HO122 := n0_; have HB := n1_; have BK123 := n2_; have GW123 := n3_; have GE123 := n4_; clear n0_ n1_ n2_ n3_ n4_; clear hb hbox hg; have hcz26_0 : w25.cell? ⟨gb123, 0, none⟩ = some (.int .i64 0) := (blk_cell BK123.out 0).trans rfl; have hcz26_1 : w25.cell? ⟨gb123, 1, none⟩ = some (.int .i64 0) := (blk_cell BK123.out 1).trans rfl; have hcz26_2 : w25.cell? ⟨gb123, 2, none⟩ = some (.int .i64 0) := (blk_cell BK123.out 2).trans rfl; have hcz26_3 : w25.cell? ⟨gb123, 3, none⟩ = some (.slice none 0 0) := (blk_cell BK123.out 3).trans rfl; have hfz26_0 := blk_frozen BK123.out 0; have hfz26_1 := blk_frozen BK123.out 1; have hfz26_2 := blk_frozen BK123.out 2; have hfz26_3 := blk_frozen BK123.out 3; obtain ⟨Ao27, co27, eo27⟩ := Kd.R_slice HO122.out; subst eo27))
  have n0_ : Aside0 (Kd.R k55 55 ((((w25.setCell ⟨gb123, 0, none⟩ (.int .i64 t117)).setCell ⟨gb123, 1, none⟩ (.int .i64 t118)).setCell ⟨gb123, 2, none⟩ (.int .i64 t119)).setCell ⟨gb123, 3, none⟩ (.slice Ao27 t120.length co27)) w.heap.size (fun _ => True) (.slice Ao27 t120.length co27) t120) := ⟨by (with_reducible repeat (first | apply Kd.R_alloc | apply Kd.R_drewN | apply Kd.R_drew)); exact Kd.R_mono (Kd.R_far (p := ⟨gb123, 3, none⟩) (Kd.R_far (p := ⟨gb123, 2, none⟩) (Kd.R_far (p := ⟨gb123, 1, none⟩) (Kd.R_far (p := ⟨gb123, 0, none⟩) (Kd.R_types HO122.out BK123.out (by decide)) (fun _ hk => hk.2) (.int .i64 t117)) (fun _ hk => hk.2) (.int .i64 t118)) (fun _ hk => hk.2) (.int .i64 t119)) (fun _ hk => hk.2) (.slice Ao27 t120.length co27)) (fun _ hk => trivial)⟩
  have n1_ : Aside0 (((((w25.setCell ⟨gb123, 0, none⟩ (.int .i64 t117)).setCell ⟨gb123, 1, none⟩ (.int .i64 t118)).setCell ⟨gb123, 2, none⟩ (.int .i64 t119)).setCell ⟨gb123, 3, none⟩ (.slice Ao27 t120.length co27)).heap[gb123]? = some (.cells #[.int .i64 t117, .int .i64 t118, .int .i64 t119, .slice Ao27 t120.length co27] 24 (0, 0))) := ⟨by (with_reducible repeat (first | refine blk_drewN ?_ _ | refine blk_drew ?_ | refine blk_alloc ?_ _)); refine blk_put (cs := #[.int .i64 t117, .int .i64 t118, .int .i64 t119, .slice none 0 0]) ?_ 3 _ rfl; (with_reducible repeat (first | refine blk_drewN ?_ _ | refine blk_drew ?_ | refine blk_alloc ?_ _)); refine blk_put (cs := #[.int .i64 t117, .int .i64 t118, .int .i64 0, .slice none 0 0]) ?_ 2 _ rfl; (with_reducible repeat (first | refine blk_drewN ?_ _ | refine blk_drew ?_ | refine blk_alloc ?_ _)); refine blk_put (cs := #[.int .i64 t117, .int .i64 0, .int .i64 0, .slice none 0 0]) ?_ 1 _ rfl; (with_reducible repeat (first | refine blk_drewN ?_ _ | refine blk_drew ?_ | refine blk_alloc ?_ _)); refine blk_put (cs := #[.int .i64 0, .int .i64 0, .int .i64 0, .slice none 0 0]) ?_ 0 _ rfl; (with_reducible repeat (first | refine blk_drewN ?_ _ | refine blk_drew ?_ | refine blk_alloc ?_ _)); exact BK123.out⟩
  have n2_ : Aside0 (Below w.heap.size w ((((w25.setCell ⟨gb123, 0, none⟩ (.int .i64 t117)).setCell ⟨gb123, 1, none⟩ (.int .i64 t118)).setCell ⟨gb123, 2, none⟩ (.int .i64 t119)).setCell ⟨gb123, 3, none⟩ (.slice Ao27 t120.length co27))) := ⟨by repeat (first | (with_reducible first | exact HB.out | apply below_alloc | apply pw_below_drewN | apply below_drew1 | refine below_set ?_ GE123.out) | exact HB.out)⟩
  (try clear HO122)
  (try clear BK123)
  (try clear HB)
  generalize ((((w25.setCell ⟨gb123, 0, none⟩ (.int .i64 t117)).setCell ⟨gb123, 1, none⟩ (.int .i64 t118)).setCell ⟨gb123, 2, none⟩ (.int .i64 t119)).setCell ⟨gb123, 3, none⟩ (.slice Ao27 t120.length co27)) = w28 at n0_ n1_ n2_ ⊢
  have HO122 := n0_
  have BK123 := n1_
  have HB := n2_
  clear n0_ n1_ n2_
  have n0_ := Aside0.mk (Kd.R_drew HO122.out)
  have n1_ := Aside0.mk (blk_drew BK123.out)
  have n2_ := Aside0.mk (below_drew1 HB.out)
  clear HO122
  clear BK123
  clear HB
  have HO122 := n0_
  have BK123 := n1_
  have HB := n2_
  clear n0_ n1_ n2_
  refine start_ (n := 8) (S := fun w' => w'.cell? ⟨gb123, 0, none⟩ = some (.int .i64 t117) ∧ w'.cell? ⟨gb123, 1, none⟩ = some (.int .i64 t118) ∧ w'.cell? ⟨gb123, 2, none⟩ = some (.int .i64 t119) ∧ w'.cell? ⟨gb123, 3, none⟩ = some (.slice Ao27 t120.length co27)) (ds := []) #[false, false, false, false, false, false, false, false] (by kernel_rfl) rfl rfl ⟨(blk_cell BK123.out 0).trans rfl, (blk_cell BK123.out 1).trans rfl, (blk_cell BK123.out 2).trans rfl, (blk_cell BK123.out 3).trans rfl⟩ (fun hHeld => ?_); refine with_tabW rootstocklaw14_lives.tab2 rootstocklaw14_lives.bits2 (fun HT_ HW_ => ?_)
  generalize w28.drew = w29 at HO122 BK123 HB hHeld ⊢
  refine take_ (i := 0) (N := some 16) (v := ?_) (a' := ?_) #[true, false, false, false, false, false, false, false] rfl rfl (take_ofW HT_.out HW_.out (by kernel_rfl)) (fun _ _ _ h => h) (Or.inl ⟨by rfl, ?_⟩) hHeld ?_ ?_
  rotate_left
  · rintro w' ⟨s0, s1, s2, s3⟩
    go_simp
    with_reducible rfl
  rotate_left
  · simp only [Act.put, List.setIfInBounds_toArray, List.set_cons_zero, List.set_cons_succ, i64_w, i32_w]
    rfl
  refine one_ (i := 1) (N := some 17) #[true, true, false, false, false, false, false, false] rfl rfl (one_of HT_.out (by kernel_rfl)) (by decide) (fun K hK => ?_)
  refine goes_ Try.func28 (by kernel_rfl) rfl #[.int .i64 2] (by rfl) rfl rfl (by (try simp only [List.map_toArray, List.map_cons, List.map_nil]); first | done | rfl | (simp only [List.length_drop, List.length_take]; rfl)) ?_
  with_reducible refine (rootstocklaw14_Sum.calls k 2 t124 _ A2.out).mono ?_
  rintro e w30 ⟨v125, rfl, ho0, hb⟩
  refine ⟨_, rfl, ?_⟩
  have n0_ := Aside0.mk (Kd.R_elder' (by (with_reducible repeat (first | apply Kd.R_alloc | apply Kd.R_drewN | apply Kd.R_drew)); exact HO122.out) (Kd.R_base ho0) hb)
  have n1_ := Aside0.mk (Kd.R_lower ho0 (below_size (by repeat (first | (with_reducible first | exact HB.out | apply below_alloc | apply pw_below_drewN | apply below_drew1 | refine below_set ?_ GE123.out) | exact HB.out))))
  have n2_ := Aside0.mk (blk_below (g := gb123) (o := .cells #[.int .i64 t117, .int .i64 t118, .int .i64 t119, .slice Ao27 t120.length co27] 24 (0, 0)) (by (with_reducible repeat (first | refine blk_drewN ?_ _ | refine blk_drew ?_ | refine blk_alloc ?_ _)); exact BK123.out) hb)
  have n3_ := Aside0.mk (below_step (by repeat (first | (with_reducible first | exact HB.out | apply below_alloc | apply pw_below_drewN | apply below_drew1 | refine below_set ?_ GE123.out) | exact HB.out)) hb)
  clear HO122
  clear BK123
  clear HB
  have HO122 := n0_
  have HO126 := n1_
  have BK123 := n2_
  have HB := n3_
  clear n0_ n1_ n2_ n3_
  (try clear hb)
  (try clear hb2)
  (try clear hk)
  (try clear hi)
  (try clear ho0)
  obtain ⟨Ao31, co31, eo31⟩ := Kd.R_slice HO126.out
  (first | subst eo31 | (injection eo31 with f1_ f2_ f3_; have f4_ := f1_.symm; have f5_ := f3_.symm; clear f1_ f2_ f3_; subst f4_; subst f5_))
  refine hK.out _ _ ⟨(blk_cell BK123.out 0).trans rfl, (blk_cell BK123.out 1).trans rfl, (blk_cell BK123.out 2).trans rfl, (blk_cell BK123.out 3).trans rfl⟩ (fun hHeld => ?_)
  clear hK K
  refine norm_ (a' := ?_) ?_ ?_
  rotate_left
  · show Act.put _ (some 17) _ = _
    simp only [Act.put, List.setIfInBounds_toArray, List.set_cons_zero, List.set_cons_succ, i64_w, i32_w]
    rfl
  refine one_ (i := 2) (N := some 18) #[true, true, true, false, false, false, false, false] rfl rfl (one_of HT_.out (by kernel_rfl)) (by decide) (fun K hK => ?_)
  refine goes_ Try.func11 (by kernel_rfl) rfl #[.agg #[.int .i64 t117, .int .i64 t118, .int .i64 t119, .slice Ao27 t120.length co27], .int .i64 2, .slice Ao31 t124.length co31] (by rfl) rfl rfl (by (try simp only [List.map_toArray, List.map_cons, List.map_nil]); first | done | rfl | (simp only [List.length_drop, List.length_take]; rfl)) ?_
  with_reducible refine (derive_Derives.calls t117 t118 t119 _ _ t120 2 _ _ t124 true t128 _ ?side1 ?side2 ?side3 ?side4 A3.out).mono ?_
  (case side1 => repeat (first | exact (Kd.R_reads' HO122.out).2.2 | (with_reducible refine Kd.C_alloc ?_ _) | (with_reducible refine Kd.C_drewN ?_ _) | (with_reducible refine Kd.C_drew ?_)))
  (case side2 => exact (Kd.R_reads' HO122.out).2.1)
  (case side3 => repeat (first | exact (Kd.R_reads' HO126.out).2.2 | (with_reducible refine Kd.C_alloc ?_ _) | (with_reducible refine Kd.C_drewN ?_ _) | (with_reducible refine Kd.C_drew ?_)))
  (case side4 => exact (Kd.R_reads' HO126.out).2.1)
  rintro e w32 ⟨rfl, hb⟩
  refine ⟨_, rfl, ?_⟩
  have n0_ := Aside0.mk (Kd.R_below (by (with_reducible repeat (first | apply Kd.R_alloc | apply Kd.R_drewN | apply Kd.R_drew)); exact HO122.out) hb)
  have n1_ := Aside0.mk (Kd.R_below (by (with_reducible repeat (first | apply Kd.R_alloc | apply Kd.R_drewN | apply Kd.R_drew)); exact HO126.out) hb)
  have n2_ := Aside0.mk (blk_below (g := gb123) (o := .cells #[.int .i64 t117, .int .i64 t118, .int .i64 t119, .slice Ao27 t120.length co27] 24 (0, 0)) (by (with_reducible repeat (first | refine blk_drewN ?_ _ | refine blk_drew ?_ | refine blk_alloc ?_ _)); exact BK123.out) hb)
  have n3_ := Aside0.mk (below_step (by repeat (first | (with_reducible first | exact HB.out | apply below_alloc | apply pw_below_drewN | apply below_drew1 | refine below_set ?_ GE123.out) | exact HB.out)) hb)
  clear HO122
  clear HO126
  clear BK123
  clear HB
  have HO122 := n0_
  have HO126 := n1_
  have BK123 := n2_
  have HB := n3_
  clear n0_ n1_ n2_ n3_
  (try clear hb)
  (try clear hb2)
  (try clear hk)
  (try clear hi)
  refine hK.out _ _ ⟨(blk_cell BK123.out 0).trans rfl, (blk_cell BK123.out 1).trans rfl, (blk_cell BK123.out 2).trans rfl, (blk_cell BK123.out 3).trans rfl⟩ (fun hHeld => ?_)
  clear hK K
  refine norm_ (a' := ?_) ?_ ?_
  rotate_left
  · show Act.put _ (some 18) _ = _
    simp only [Act.put, List.setIfInBounds_toArray, List.set_cons_zero, List.set_cons_succ, i64_w, i32_w]
    rfl
  refine pure_ (i := 3) (N := some 15) (v := ?_) (a' := ?_) #[true, true, true, true, false, false, false, false] rfl rfl (any_of HT_.out (by kernel_rfl)) (fun _ _ _ h => h) (Or.inl ⟨by rfl, ?_⟩) ?_ ?_
  rotate_left
  · intro w'
    go_simp
    with_reducible rfl
  rotate_left
  · simp only [Act.put, List.setIfInBounds_toArray, List.set_cons_zero, List.set_cons_succ, i64_w, i32_w]
    rfl
  refine pure_ (i := 4) (N := some 19) (v := ?_) (a' := ?_) #[true, true, true, true, true, false, false, false] rfl rfl (any_of HT_.out (by kernel_rfl)) (fun _ _ _ h => h) (Or.inl ⟨by rfl, ?_⟩) ?_ ?_
  rotate_left
  · intro w'
    go_simp
    with_reducible rfl
  rotate_left
  · simp only [Act.put, List.setIfInBounds_toArray, List.set_cons_zero, List.set_cons_succ, i64_w, i32_w]
    rfl
  refine pure_ (i := 5) (N := some 20) (v := ?_) (a' := ?_) #[true, true, true, true, true, true, false, false] rfl rfl (any_of HT_.out (by kernel_rfl)) (fun _ _ _ h => h) (Or.inl ⟨by rfl, ?_⟩) ?_ ?_
  rotate_left
  · intro w'
    go_simp
    with_reducible rfl
  rotate_left
  · simp only [Act.put, List.setIfInBounds_toArray, List.set_cons_zero, List.set_cons_succ, i64_w, i32_w]
    rfl
  refine pure_ (i := 6) (N := some 2) (v := ?_) (a' := ?_) #[true, true, true, true, true, true, true, false] rfl rfl (any_of HT_.out (by kernel_rfl)) (fun _ _ _ h => h) (Or.inl ⟨by rfl, ?_⟩) ?_ ?_
  rotate_left
  · intro w'
    go_simp
    with_reducible rfl
  rotate_left
  · simp only [Act.put, List.setIfInBounds_toArray, List.set_cons_zero, List.set_cons_succ, i64_w, i32_w]
    rfl
  refine pure_ (i := 7) (N := some 3) (v := ?_) (a' := ?_) #[true, true, true, true, true, true, true, true] rfl rfl (any_of HT_.out (by kernel_rfl)) (fun _ _ _ h => h) (Or.inl ⟨by rfl, ?_⟩) ?_ ?_
  rotate_left
  · intro w'
    go_simp
    with_reducible rfl
  rotate_left
  · simp only [Act.put, List.setIfInBounds_toArray, List.set_cons_zero, List.set_cons_succ, i64_w, i32_w]
    rfl
  refine done_ (done_of HT_.out (by kernel_rfl)) ?_
  have hcz33_0 : w32.cell? ⟨gb123, 0, none⟩ = some (.int .i64 t117) := (blk_cell BK123.out 0).trans rfl
  have hcz33_1 : w32.cell? ⟨gb123, 1, none⟩ = some (.int .i64 t118) := (blk_cell BK123.out 1).trans rfl
  have hcz33_2 : w32.cell? ⟨gb123, 2, none⟩ = some (.int .i64 t119) := (blk_cell BK123.out 2).trans rfl
  have hcz33_3 : w32.cell? ⟨gb123, 3, none⟩ = some (.slice Ao27 t120.length co27) := (blk_cell BK123.out 3).trans rfl
  have hfz33_0 := blk_frozen BK123.out 0
  have hfz33_1 := blk_frozen BK123.out 1
  have hfz33_2 := blk_frozen BK123.out 2
  have hfz33_3 := blk_frozen BK123.out 3
  try go_wp2_with (first | ((with_reducible refine gate_dst (N := 23) rfl ?_); (try (refine gate_guard (by rfl) ?_; dsimp only)); refine Kd.R_lit (Kd.int .i64) _ 3 ?hg (N := 23) ?hd (xs := ([0, 1] : List Int)) (inner := [.int .i64 0, .int .i64 1]) (ok := fun _ => True) (okp := fun _ => True) ?hr ?hp (fun _ hk => hk) trivial (Below.refl _ _) (Nat.le_refl _) (by simp) ?_; (case hd => rfl); (case hg => rfl); (case hr => first | (go_simp; done) | (go_simp; rfl)); (case hp => exact (Reps.one (show Kd.M (Kd.int .i64) _ _ _ 0 [.int .i64 0] from rfl) (Reps.one (show Kd.M (Kd.int .i64) _ _ _ 1 [.int .i64 1] from rfl) (Reps.none _ _)))); intro v130 w34 ho35 hb hg_ hnew_; clear hg_ hnew_; (first | rw [← Ny129.out] at ho35 | (simp only [Int.reduceToNat] at ho35; rw [← Ny129.out] at ho35)); have n0_ := Aside0.mk (Kd.R_elder' (by (with_reducible repeat (first | apply Kd.R_alloc | apply Kd.R_drewN | apply Kd.R_drew)); exact HO122.out) (Kd.R_base ho35) hb); have n1_ := Aside0.mk (Kd.R_elder' (by (with_reducible repeat (first | apply Kd.R_alloc | apply Kd.R_drewN | apply Kd.R_drew)); exact HO126.out) (Kd.R_base ho35) hb); have n2_ := Aside0.mk (Kd.R_lower (Kd.R_new' ho35 (Kd.R_lt (by (with_reducible repeat (first | apply Kd.R_alloc | apply Kd.R_drewN | apply Kd.R_drew)); exact HO126.out))) (below_size (by repeat (first | (with_reducible first | exact HB.out | apply below_alloc | apply pw_below_drewN | apply below_drew1 | refine below_set ?_ GE123.out) | exact HB.out)))); have n3_ := Aside0.mk (blk_below (g := gb123) (o := .cells #[.int .i64 t117, .int .i64 t118, .int .i64 t119, .slice Ao27 t120.length co27] 24 (0, 0)) (by (with_reducible repeat (first | refine blk_drewN ?_ _ | refine blk_drew ?_ | refine blk_alloc ?_ _)); exact BK123.out) hb); have n4_ := Aside0.mk (below_step (by repeat (first | (with_reducible first | exact HB.out | apply below_alloc | apply pw_below_drewN | apply below_drew1 | refine below_set ?_ GE123.out) | exact HB.out)) hb); clear HO122; clear HO126; clear BK123; clear HB; have HO122 := n0_; have HO126 := n1_; have HO131 := n2_; have BK123 := n3_; have HB := n4_; clear n0_ n1_ n2_ n3_ n4_; clear hb ho35; obtain ⟨Ao36, co36, eo36⟩ := Kd.R_slice HO131.out; subst eo36) | ((with_reducible refine gate_callee (f := 11) rfl ?_); refine goesL_ (some 24) rfl rfl Try.func11 (by kernel_rfl) rfl #[.agg #[.int .i64 t117, .int .i64 t118, .int .i64 t119, .slice Ao27 t120.length co27], .int .i64 2, .slice Ao36 y129.length co36] rfl (by (try simp only [List.map_toArray, List.map_cons, List.map_nil]); first | done | rfl | (simp only [List.length_drop, List.length_take]; rfl)) ?_; (with_reducible refine (derive_Derives.calls t117 t118 t119 _ _ t120 2 _ _ y129 false t133 _ ?side1 ?side2 ?side3 ?side4 A4.out).mono ?_); (case side1 => repeat (first | exact (Kd.R_reads' HO122.out).2.2 | (with_reducible refine Kd.C_alloc ?_ _) | (with_reducible refine Kd.C_drewN ?_ _) | (with_reducible refine Kd.C_drew ?_))); (case side2 => exact (Kd.R_reads' HO122.out).2.1); (case side3 => repeat (first | exact (Kd.R_reads' HO131.out).2.2 | (with_reducible refine Kd.C_alloc ?_ _) | (with_reducible refine Kd.C_drewN ?_ _) | (with_reducible refine Kd.C_drew ?_))); (case side4 => exact (Kd.R_reads' HO131.out).2.1); rintro e w37 ⟨rfl, hb⟩; refine ⟨_, rfl, ?_⟩; have n0_ := Aside0.mk (Kd.R_below (by (with_reducible repeat (first | apply Kd.R_alloc | apply Kd.R_drewN | apply Kd.R_drew)); exact HO122.out) hb); have n1_ := Aside0.mk (Kd.R_below (by (with_reducible repeat (first | apply Kd.R_alloc | apply Kd.R_drewN | apply Kd.R_drew)); exact HO126.out) hb); have n2_ := Aside0.mk (Kd.R_below (by (with_reducible repeat (first | apply Kd.R_alloc | apply Kd.R_drewN | apply Kd.R_drew)); exact HO131.out) hb); have n3_ := Aside0.mk (blk_below (g := gb123) (o := .cells #[.int .i64 t117, .int .i64 t118, .int .i64 t119, .slice Ao27 t120.length co27] 24 (0, 0)) (by (with_reducible repeat (first | refine blk_drewN ?_ _ | refine blk_drew ?_ | refine blk_alloc ?_ _)); exact BK123.out) hb); have n4_ := Aside0.mk (below_step (by repeat (first | (with_reducible first | exact HB.out | apply below_alloc | apply pw_below_drewN | apply below_drew1 | refine below_set ?_ GE123.out) | exact HB.out)) hb); clear HO122; clear HO126; clear HO131; clear BK123; clear HB; have HO122 := n0_; have HO126 := n1_; have HO131 := n2_; have BK123 := n3_; have HB := n4_; clear n0_ n1_ n2_ n3_ n4_; (try clear hb); (try clear hb2); (try clear hk); (try clear hi); have hcz38_0 : w37.cell? ⟨gb123, 0, none⟩ = some (.int .i64 t117) := (blk_cell BK123.out 0).trans rfl; have hcz38_1 : w37.cell? ⟨gb123, 1, none⟩ = some (.int .i64 t118) := (blk_cell BK123.out 1).trans rfl; have hcz38_2 : w37.cell? ⟨gb123, 2, none⟩ = some (.int .i64 t119) := (blk_cell BK123.out 2).trans rfl; have hcz38_3 : w37.cell? ⟨gb123, 3, none⟩ = some (.slice Ao27 t120.length co27) := (blk_cell BK123.out 3).trans rfl; have hfz38_0 := blk_frozen BK123.out 0; have hfz38_1 := blk_frozen BK123.out 1; have hfz38_2 := blk_frozen BK123.out 2; have hfz38_3 := blk_frozen BK123.out 3) | ((with_reducible refine gate_dst (N := 29) rfl ?_); (try (refine gate_guard (by rfl) ?_; dsimp only)); refine Kd.R_lit (Kd.int .i64) _ 3 ?hg (N := 29) ?hd (xs := ([0, 1] : List Int)) (inner := [.int .i64 0, .int .i64 1]) (ok := fun _ => True) (okp := fun _ => True) ?hr ?hp (fun _ hk => hk) trivial (Below.refl _ _) (Nat.le_refl _) (by simp) ?_; (case hd => rfl); (case hg => rfl); (case hr => first | (go_simp; done) | (go_simp; rfl)); (case hp => exact (Reps.one (show Kd.M (Kd.int .i64) _ _ _ 0 [.int .i64 0] from rfl) (Reps.one (show Kd.M (Kd.int .i64) _ _ _ 1 [.int .i64 1] from rfl) (Reps.none _ _)))); intro v135 w39 ho40 hb hg_ hnew_; clear hg_ hnew_; (first | rw [← Ny134.out] at ho40 | (simp only [Int.reduceToNat] at ho40; rw [← Ny134.out] at ho40)); have n0_ := Aside0.mk (Kd.R_elder' (by (with_reducible repeat (first | apply Kd.R_alloc | apply Kd.R_drewN | apply Kd.R_drew)); exact HO122.out) (Kd.R_base ho40) hb); have n1_ := Aside0.mk (Kd.R_elder' (by (with_reducible repeat (first | apply Kd.R_alloc | apply Kd.R_drewN | apply Kd.R_drew)); exact HO126.out) (Kd.R_base ho40) hb); have n2_ := Aside0.mk (Kd.R_elder' (by (with_reducible repeat (first | apply Kd.R_alloc | apply Kd.R_drewN | apply Kd.R_drew)); exact HO131.out) (Kd.R_base ho40) hb); have n3_ := Aside0.mk (Kd.R_lower (Kd.R_new' (Kd.R_new' ho40 (Kd.R_lt (by (with_reducible repeat (first | apply Kd.R_alloc | apply Kd.R_drewN | apply Kd.R_drew)); exact HO126.out))) (Kd.R_lt (by (with_reducible repeat (first | apply Kd.R_alloc | apply Kd.R_drewN | apply Kd.R_drew)); exact HO131.out))) (below_size (by repeat (first | (with_reducible first | exact HB.out | apply below_alloc | apply pw_below_drewN | apply below_drew1 | refine below_set ?_ GE123.out) | exact HB.out)))); have n4_ := Aside0.mk (blk_below (g := gb123) (o := .cells #[.int .i64 t117, .int .i64 t118, .int .i64 t119, .slice Ao27 t120.length co27] 24 (0, 0)) (by (with_reducible repeat (first | refine blk_drewN ?_ _ | refine blk_drew ?_ | refine blk_alloc ?_ _)); exact BK123.out) hb); have n5_ := Aside0.mk (below_step (by repeat (first | (with_reducible first | exact HB.out | apply below_alloc | apply pw_below_drewN | apply below_drew1 | refine below_set ?_ GE123.out) | exact HB.out)) hb); clear HO122; clear HO126; clear HO131; clear BK123; clear HB; have HO122 := n0_; have HO126 := n1_; have HO131 := n2_; have HO136 := n3_; have BK123 := n4_; have HB := n5_; clear n0_ n1_ n2_ n3_ n4_ n5_; clear hb ho40; obtain ⟨Ao41, co41, eo41⟩ := Kd.R_slice HO136.out; subst eo41) | ((with_reducible refine gate_callee (f := 15) rfl ?_); refine goesL_ (some 30) rfl rfl Try.func15 (by kernel_rfl) rfl #[.agg #[.int .i64 t117, .int .i64 t118, .int .i64 t119, .slice Ao27 t120.length co27], .slice Ao41 y134.length co41] rfl (by (try simp only [List.map_toArray, List.map_cons, List.map_nil]); first | done | rfl | (simp only [List.length_drop, List.length_take]; rfl)) ?_; (with_reducible refine (derive_Viable.calls t117 t118 t119 _ _ t120 _ _ y134 true t138 _ ?side1 ?side2 ?side3 ?side4 A5.out).mono ?_); (case side1 => repeat (first | exact (Kd.R_reads' HO122.out).2.2 | (with_reducible refine Kd.C_alloc ?_ _) | (with_reducible refine Kd.C_drewN ?_ _) | (with_reducible refine Kd.C_drew ?_))); (case side2 => exact (Kd.R_reads' HO122.out).2.1); (case side3 => repeat (first | exact (Kd.R_reads' HO136.out).2.2 | (with_reducible refine Kd.C_alloc ?_ _) | (with_reducible refine Kd.C_drewN ?_ _) | (with_reducible refine Kd.C_drew ?_))); (case side4 => exact (Kd.R_reads' HO136.out).2.1); rintro e w42 ⟨rfl, hb⟩; refine ⟨_, rfl, ?_⟩; have n0_ := Aside0.mk (Kd.R_below (by (with_reducible repeat (first | apply Kd.R_alloc | apply Kd.R_drewN | apply Kd.R_drew)); exact HO122.out) hb); have n1_ := Aside0.mk (Kd.R_below (by (with_reducible repeat (first | apply Kd.R_alloc | apply Kd.R_drewN | apply Kd.R_drew)); exact HO126.out) hb); have n2_ := Aside0.mk (Kd.R_below (by (with_reducible repeat (first | apply Kd.R_alloc | apply Kd.R_drewN | apply Kd.R_drew)); exact HO131.out) hb); have n3_ := Aside0.mk (Kd.R_below (by (with_reducible repeat (first | apply Kd.R_alloc | apply Kd.R_drewN | apply Kd.R_drew)); exact HO136.out) hb); have n4_ := Aside0.mk (blk_below (g := gb123) (o := .cells #[.int .i64 t117, .int .i64 t118, .int .i64 t119, .slice Ao27 t120.length co27] 24 (0, 0)) (by (with_reducible repeat (first | refine blk_drewN ?_ _ | refine blk_drew ?_ | refine blk_alloc ?_ _)); exact BK123.out) hb); have n5_ := Aside0.mk (below_step (by repeat (first | (with_reducible first | exact HB.out | apply below_alloc | apply pw_below_drewN | apply below_drew1 | refine below_set ?_ GE123.out) | exact HB.out)) hb); clear HO122; clear HO126; clear HO131; clear HO136; clear BK123; clear HB; have HO122 := n0_; have HO126 := n1_; have HO131 := n2_; have HO136 := n3_; have BK123 := n4_; have HB := n5_; clear n0_ n1_ n2_ n3_ n4_ n5_; (try clear hb); (try clear hb2); (try clear hk); (try clear hi); have hcz43_0 : w42.cell? ⟨gb123, 0, none⟩ = some (.int .i64 t117) := (blk_cell BK123.out 0).trans rfl; have hcz43_1 : w42.cell? ⟨gb123, 1, none⟩ = some (.int .i64 t118) := (blk_cell BK123.out 1).trans rfl; have hcz43_2 : w42.cell? ⟨gb123, 2, none⟩ = some (.int .i64 t119) := (blk_cell BK123.out 2).trans rfl; have hcz43_3 : w42.cell? ⟨gb123, 3, none⟩ = some (.slice Ao27 t120.length co27) := (blk_cell BK123.out 3).trans rfl; have hfz43_0 := blk_frozen BK123.out 0; have hfz43_1 := blk_frozen BK123.out 1; have hfz43_2 := blk_frozen BK123.out 2; have hfz43_3 := blk_frozen BK123.out 3) | ((with_reducible refine gate_dst (N := 35) rfl ?_); (try (refine gate_guard (by rfl) ?_; dsimp only)); refine Kd.R_lit (Kd.int .i64) _ 3 ?hg (N := 35) ?hd (xs := ([0, 0] : List Int)) (inner := [.int .i64 0, .int .i64 0]) (ok := fun _ => True) (okp := fun _ => True) ?hr ?hp (fun _ hk => hk) trivial (Below.refl _ _) (Nat.le_refl _) (by simp) ?_; (case hd => rfl); (case hg => rfl); (case hr => first | (go_simp; done) | (go_simp; rfl)); (case hp => exact (Reps.one (show Kd.M (Kd.int .i64) _ _ _ 0 [.int .i64 0] from rfl) (Reps.one (show Kd.M (Kd.int .i64) _ _ _ 0 [.int .i64 0] from rfl) (Reps.none _ _)))); intro v140 w44 ho45 hb hg_ hnew_; clear hg_ hnew_; (first | rw [← Ny139.out] at ho45 | (simp only [Int.reduceToNat] at ho45; rw [← Ny139.out] at ho45)); have n0_ := Aside0.mk (Kd.R_elder' (by (with_reducible repeat (first | apply Kd.R_alloc | apply Kd.R_drewN | apply Kd.R_drew)); exact HO122.out) (Kd.R_base ho45) hb); have n1_ := Aside0.mk (Kd.R_elder' (by (with_reducible repeat (first | apply Kd.R_alloc | apply Kd.R_drewN | apply Kd.R_drew)); exact HO126.out) (Kd.R_base ho45) hb); have n2_ := Aside0.mk (Kd.R_elder' (by (with_reducible repeat (first | apply Kd.R_alloc | apply Kd.R_drewN | apply Kd.R_drew)); exact HO131.out) (Kd.R_base ho45) hb); have n3_ := Aside0.mk (Kd.R_elder' (by (with_reducible repeat (first | apply Kd.R_alloc | apply Kd.R_drewN | apply Kd.R_drew)); exact HO136.out) (Kd.R_base ho45) hb); have n4_ := Aside0.mk (Kd.R_lower (Kd.R_new' (Kd.R_new' (Kd.R_new' ho45 (Kd.R_lt (by (with_reducible repeat (first | apply Kd.R_alloc | apply Kd.R_drewN | apply Kd.R_drew)); exact HO126.out))) (Kd.R_lt (by (with_reducible repeat (first | apply Kd.R_alloc | apply Kd.R_drewN | apply Kd.R_drew)); exact HO131.out))) (Kd.R_lt (by (with_reducible repeat (first | apply Kd.R_alloc | apply Kd.R_drewN | apply Kd.R_drew)); exact HO136.out))) (below_size (by repeat (first | (with_reducible first | exact HB.out | apply below_alloc | apply pw_below_drewN | apply below_drew1 | refine below_set ?_ GE123.out) | exact HB.out)))); have n5_ := Aside0.mk (blk_below (g := gb123) (o := .cells #[.int .i64 t117, .int .i64 t118, .int .i64 t119, .slice Ao27 t120.length co27] 24 (0, 0)) (by (with_reducible repeat (first | refine blk_drewN ?_ _ | refine blk_drew ?_ | refine blk_alloc ?_ _)); exact BK123.out) hb); have n6_ := Aside0.mk (below_step (by repeat (first | (with_reducible first | exact HB.out | apply below_alloc | apply pw_below_drewN | apply below_drew1 | refine below_set ?_ GE123.out) | exact HB.out)) hb); clear HO122; clear HO126; clear HO131; clear HO136; clear BK123; clear HB; have HO122 := n0_; have HO126 := n1_; have HO131 := n2_; have HO136 := n3_; have HO141 := n4_; have BK123 := n5_; have HB := n6_; clear n0_ n1_ n2_ n3_ n4_ n5_ n6_; clear hb ho45; obtain ⟨Ao46, co46, eo46⟩ := Kd.R_slice HO141.out; subst eo46) | ((with_reducible refine gate_callee (f := 17) rfl ?_); refine goesL_ (some 36) rfl rfl Try.func17 (by kernel_rfl) rfl #[.agg #[.int .i64 t117, .int .i64 t118, .int .i64 t119, .slice Ao27 t120.length co27], .slice Ao46 y139.length co46] rfl (by (try simp only [List.map_toArray, List.map_cons, List.map_nil]); first | done | rfl | (simp only [List.length_drop, List.length_take]; rfl)) ?_; (with_reducible refine (derive_Judge.calls k t117 t118 t119 _ _ t120 _ _ y139 t142 t143 t144 _ ?side1 ?side2 ?side3 ?side4 A6.out).mono ?_); (case side1 => repeat (first | exact (Kd.R_reads' HO122.out).2.2 | (with_reducible refine Kd.C_alloc ?_ _) | (with_reducible refine Kd.C_drewN ?_ _) | (with_reducible refine Kd.C_drew ?_))); (case side2 => exact (Kd.R_reads' HO122.out).2.1); (case side3 => repeat (first | exact (Kd.R_reads' HO141.out).2.2 | (with_reducible refine Kd.C_alloc ?_ _) | (with_reducible refine Kd.C_drewN ?_ _) | (with_reducible refine Kd.C_drew ?_))); (case side4 => exact (Kd.R_reads' HO141.out).2.1); rintro e w47 ⟨rfl, hb⟩; refine ⟨_, rfl, ?_⟩; have n0_ := Aside0.mk (Kd.R_below (by (with_reducible repeat (first | apply Kd.R_alloc | apply Kd.R_drewN | apply Kd.R_drew)); exact HO122.out) hb); have n1_ := Aside0.mk (Kd.R_below (by (with_reducible repeat (first | apply Kd.R_alloc | apply Kd.R_drewN | apply Kd.R_drew)); exact HO126.out) hb); have n2_ := Aside0.mk (Kd.R_below (by (with_reducible repeat (first | apply Kd.R_alloc | apply Kd.R_drewN | apply Kd.R_drew)); exact HO131.out) hb); have n3_ := Aside0.mk (Kd.R_below (by (with_reducible repeat (first | apply Kd.R_alloc | apply Kd.R_drewN | apply Kd.R_drew)); exact HO136.out) hb); have n4_ := Aside0.mk (Kd.R_below (by (with_reducible repeat (first | apply Kd.R_alloc | apply Kd.R_drewN | apply Kd.R_drew)); exact HO141.out) hb); have n5_ := Aside0.mk (blk_below (g := gb123) (o := .cells #[.int .i64 t117, .int .i64 t118, .int .i64 t119, .slice Ao27 t120.length co27] 24 (0, 0)) (by (with_reducible repeat (first | refine blk_drewN ?_ _ | refine blk_drew ?_ | refine blk_alloc ?_ _)); exact BK123.out) hb); have n6_ := Aside0.mk (below_step (by repeat (first | (with_reducible first | exact HB.out | apply below_alloc | apply pw_below_drewN | apply below_drew1 | refine below_set ?_ GE123.out) | exact HB.out)) hb); clear HO122; clear HO126; clear HO131; clear HO136; clear HO141; clear BK123; clear HB; have HO122 := n0_; have HO126 := n1_; have HO131 := n2_; have HO136 := n3_; have HO141 := n4_; have BK123 := n5_; have HB := n6_; clear n0_ n1_ n2_ n3_ n4_ n5_ n6_; (try clear hb); (try clear hb2); (try clear hk); (try clear hi)) | ((with_reducible refine gate_dst (N := 8) rfl ?_); (try (refine gate_guard (by rfl) ?_; dsimp only)); refine box_event ?hg (N := 8) ?hd (cs := #[.bool false, .int .i64 0]) (t := 35) ?hr ?_; (case hd => rfl); (case hg => rfl); (case hr => first | (go_simp; done) | (go_simp; rfl)); intro gb145 hg w48 hbox hb; have n0_ := Aside0.mk (Kd.R_below (by (with_reducible repeat (first | apply Kd.R_alloc | apply Kd.R_drewN | apply Kd.R_drew)); exact HO122.out) hb); have n1_ := Aside0.mk (Kd.R_below (by (with_reducible repeat (first | apply Kd.R_alloc | apply Kd.R_drewN | apply Kd.R_drew)); exact HO126.out) hb); have n2_ := Aside0.mk (Kd.R_below (by (with_reducible repeat (first | apply Kd.R_alloc | apply Kd.R_drewN | apply Kd.R_drew)); exact HO131.out) hb); have n3_ := Aside0.mk (Kd.R_below (by (with_reducible repeat (first | apply Kd.R_alloc | apply Kd.R_drewN | apply Kd.R_drew)); exact HO136.out) hb); have n4_ := Aside0.mk (Kd.R_below (by (with_reducible repeat (first | apply Kd.R_alloc | apply Kd.R_drewN | apply Kd.R_drew)); exact HO141.out) hb); have n5_ := Aside0.mk (blk_below (g := gb123) (o := .cells #[.int .i64 t117, .int .i64 t118, .int .i64 t119, .slice Ao27 t120.length co27] 24 (0, 0)) (by (with_reducible repeat (first | refine blk_drewN ?_ _ | refine blk_drew ?_ | refine blk_alloc ?_ _)); exact BK123.out) hb); have n6_ := Aside0.mk (below_step (by repeat (first | (with_reducible first | exact HB.out | apply below_alloc | apply pw_below_drewN | apply below_drew1 | refine below_set ?_ GE123.out) | exact HB.out)) hb); have n7_ := Aside0.mk (hbox); have n8_ := Aside0.mk ((by rw [hg]; exact (below_size (by repeat (first | (with_reducible first | exact HB.out | apply below_alloc | apply pw_below_drewN | apply below_drew1 | refine below_set ?_ GE123.out) | exact HB.out))) : w.heap.size ≤ gb145)); have n9_ := Aside0.mk ((by rw [hg]; exact (below_size (by repeat (first | (with_reducible first | exact HB.out | apply below_alloc | apply pw_below_drewN | apply below_drew1 | refine below_set ?_ GE123.out) | exact HB.out))) : w.heap.size ≤ gb145)); have n10_ := Aside0.mk ((by rw [hg]; exact Nat.ne_of_lt (blk_lt (g := gb123) (o := .cells #[.int .i64 t117, .int .i64 t118, .int .i64 t119, .slice Ao27 t120.length co27] 24 (0, 0)) (by (with_reducible repeat (first | refine blk_drewN ?_ _ | refine blk_drew ?_ | refine blk_alloc ?_ _)); exact BK123.out)) : gb123 ≠ gb145)); have n11_ := Aside0.mk ((by rw [hg]; exact Nat.ne_of_gt (blk_lt (g := gb123) (o := .cells #[.int .i64 t117, .int .i64 t118, .int .i64 t119, .slice Ao27 t120.length co27] 24 (0, 0)) (by (with_reducible repeat (first | refine blk_drewN ?_ _ | refine blk_drew ?_ | refine blk_alloc ?_ _)); exact BK123.out)) : gb145 ≠ gb123)); clear HO122; clear HO126; clear HO131; clear HO136; clear HO141; clear BK123; clear HB; have HO122 := n0_; have HO126 := n1_; have HO131 := n2_; have HO136 := n3_; have HO141 := n4_; have BK123 := n5_; have HB := n6_; have BK145 := n7_; have GW145 := n8_; have GE145 := n9_; have NB123_145 := n10_; have NB145_123 := n11_; clear n0_ n1_ n2_ n3_ n4_ n5_ n6_ n7_ n8_ n9_ n10_ n11_; clear hb hbox hg; have hnb49 := NB145_123.out; have hnc49 := NB123_145.out; have hcz50_0 : w48.cell? ⟨gb145, 0, none⟩ = some (.bool false) := (blk_cell BK145.out 0).trans rfl; have hcz50_1 : w48.cell? ⟨gb145, 1, none⟩ = some (.int .i64 0) := (blk_cell BK145.out 1).trans rfl; have hfz50_0 := blk_frozen BK145.out 0; have hfz50_1 := blk_frozen BK145.out 1))
  have n0_ : Aside0 (Kd.R k55 55 ((w48.setCell ⟨gb145, 0, none⟩ (.bool t142)).setCell ⟨gb145, 1, none⟩ (.int .i64 t143)) w.heap.size (fun k_ => some k_ ≠ (.slice Ao31 t124.length co31 : Value).ownBlock ∧ some k_ ≠ (.slice Ao36 y129.length co36 : Value).ownBlock ∧ some k_ ≠ (.slice Ao41 y134.length co41 : Value).ownBlock ∧ some k_ ≠ (.slice Ao46 y139.length co46 : Value).ownBlock) (.slice Ao27 t120.length co27) t120) := ⟨by (with_reducible repeat (first | apply Kd.R_alloc | apply Kd.R_drewN | apply Kd.R_drew)); exact Kd.R_mono (Kd.R_far (p := ⟨gb145, 1, none⟩) (Kd.R_far (p := ⟨gb145, 0, none⟩) (Kd.R_types HO122.out BK145.out (by decide)) (fun _ hk => hk.2) (.bool t142)) (fun _ hk => hk.2) (.int .i64 t143)) (fun _ hk => ⟨hk.1.1.1.1.2, ⟨hk.1.1.1.2, ⟨hk.1.1.2, hk.1.2⟩⟩⟩)⟩
  have n1_ : Aside0 (Kd.R (Kd.int .i64) 3 ((w48.setCell ⟨gb145, 0, none⟩ (.bool t142)).setCell ⟨gb145, 1, none⟩ (.int .i64 t143)) w.heap.size (fun k_ => some k_ ≠ (.slice Ao36 y129.length co36 : Value).ownBlock ∧ some k_ ≠ (.slice Ao41 y134.length co41 : Value).ownBlock ∧ some k_ ≠ (.slice Ao46 y139.length co46 : Value).ownBlock) (.slice Ao31 t124.length co31) t124) := ⟨by (with_reducible repeat (first | apply Kd.R_alloc | apply Kd.R_drewN | apply Kd.R_drew)); exact Kd.R_mono (Kd.R_far (p := ⟨gb145, 1, none⟩) (Kd.R_far (p := ⟨gb145, 0, none⟩) (Kd.R_types HO126.out BK145.out (by decide)) (fun _ hk => hk.2) (.bool t142)) (fun _ hk => hk.2) (.int .i64 t143)) (fun _ hk => ⟨hk.1.1.1.2, ⟨hk.1.1.2, hk.1.2⟩⟩)⟩
  have n2_ : Aside0 (Kd.R (Kd.int .i64) 3 ((w48.setCell ⟨gb145, 0, none⟩ (.bool t142)).setCell ⟨gb145, 1, none⟩ (.int .i64 t143)) w.heap.size (fun k_ => some k_ ≠ (.slice Ao31 t124.length co31 : Value).ownBlock ∧ some k_ ≠ (.slice Ao41 y134.length co41 : Value).ownBlock ∧ some k_ ≠ (.slice Ao46 y139.length co46 : Value).ownBlock) (.slice Ao36 y129.length co36) y129) := ⟨by (with_reducible repeat (first | apply Kd.R_alloc | apply Kd.R_drewN | apply Kd.R_drew)); exact Kd.R_mono (Kd.R_far (p := ⟨gb145, 1, none⟩) (Kd.R_far (p := ⟨gb145, 0, none⟩) (Kd.R_types HO131.out BK145.out (by decide)) (fun _ hk => hk.2) (.bool t142)) (fun _ hk => hk.2) (.int .i64 t143)) (fun _ hk => ⟨hk.1.1.1.2, ⟨hk.1.1.2, hk.1.2⟩⟩)⟩
  have n3_ : Aside0 (Kd.R (Kd.int .i64) 3 ((w48.setCell ⟨gb145, 0, none⟩ (.bool t142)).setCell ⟨gb145, 1, none⟩ (.int .i64 t143)) w.heap.size (fun k_ => some k_ ≠ (.slice Ao31 t124.length co31 : Value).ownBlock ∧ some k_ ≠ (.slice Ao36 y129.length co36 : Value).ownBlock ∧ some k_ ≠ (.slice Ao46 y139.length co46 : Value).ownBlock) (.slice Ao41 y134.length co41) y134) := ⟨by (with_reducible repeat (first | apply Kd.R_alloc | apply Kd.R_drewN | apply Kd.R_drew)); exact Kd.R_mono (Kd.R_far (p := ⟨gb145, 1, none⟩) (Kd.R_far (p := ⟨gb145, 0, none⟩) (Kd.R_types HO136.out BK145.out (by decide)) (fun _ hk => hk.2) (.bool t142)) (fun _ hk => hk.2) (.int .i64 t143)) (fun _ hk => ⟨hk.1.1.1.2, ⟨hk.1.1.2, hk.1.2⟩⟩)⟩
  have n4_ : Aside0 (Kd.R (Kd.int .i64) 3 ((w48.setCell ⟨gb145, 0, none⟩ (.bool t142)).setCell ⟨gb145, 1, none⟩ (.int .i64 t143)) w.heap.size (fun k_ => some k_ ≠ (.slice Ao31 t124.length co31 : Value).ownBlock ∧ some k_ ≠ (.slice Ao36 y129.length co36 : Value).ownBlock ∧ some k_ ≠ (.slice Ao41 y134.length co41 : Value).ownBlock) (.slice Ao46 y139.length co46) y139) := ⟨by (with_reducible repeat (first | apply Kd.R_alloc | apply Kd.R_drewN | apply Kd.R_drew)); exact Kd.R_mono (Kd.R_far (p := ⟨gb145, 1, none⟩) (Kd.R_far (p := ⟨gb145, 0, none⟩) (Kd.R_types HO141.out BK145.out (by decide)) (fun _ hk => hk.2) (.bool t142)) (fun _ hk => hk.2) (.int .i64 t143)) (fun _ hk => ⟨hk.1.1.1.2, ⟨hk.1.1.2, hk.1.2⟩⟩)⟩
  have n5_ : Aside0 (((w48.setCell ⟨gb145, 0, none⟩ (.bool t142)).setCell ⟨gb145, 1, none⟩ (.int .i64 t143)).heap[gb123]? = some (.cells #[.int .i64 t117, .int .i64 t118, .int .i64 t119, .slice Ao27 t120.length co27] 24 (0, 0))) := ⟨by (with_reducible repeat (first | refine blk_drewN ?_ _ | refine blk_drew ?_ | refine blk_alloc ?_ _)); refine blk_far ?_ NB123_145.out _; (with_reducible repeat (first | refine blk_drewN ?_ _ | refine blk_drew ?_ | refine blk_alloc ?_ _)); refine blk_far ?_ NB123_145.out _; (with_reducible repeat (first | refine blk_drewN ?_ _ | refine blk_drew ?_ | refine blk_alloc ?_ _)); exact BK123.out⟩
  have n6_ : Aside0 (((w48.setCell ⟨gb145, 0, none⟩ (.bool t142)).setCell ⟨gb145, 1, none⟩ (.int .i64 t143)).heap[gb145]? = some (.cells #[.bool t142, .int .i64 t143] 35 (0, 0))) := ⟨by (with_reducible repeat (first | refine blk_drewN ?_ _ | refine blk_drew ?_ | refine blk_alloc ?_ _)); refine blk_put (cs := #[.bool t142, .int .i64 0]) ?_ 1 _ rfl; (with_reducible repeat (first | refine blk_drewN ?_ _ | refine blk_drew ?_ | refine blk_alloc ?_ _)); refine blk_put (cs := #[.bool false, .int .i64 0]) ?_ 0 _ rfl; (with_reducible repeat (first | refine blk_drewN ?_ _ | refine blk_drew ?_ | refine blk_alloc ?_ _)); exact BK145.out⟩
  have n7_ : Aside0 (Below w.heap.size w ((w48.setCell ⟨gb145, 0, none⟩ (.bool t142)).setCell ⟨gb145, 1, none⟩ (.int .i64 t143))) := ⟨by repeat (first | (with_reducible first | exact HB.out | apply below_alloc | apply pw_below_drewN | apply below_drew1 | refine below_set ?_ GE123.out | refine below_set ?_ GE145.out) | exact HB.out)⟩
  (try clear HO122)
  (try clear HO126)
  (try clear HO131)
  (try clear HO136)
  (try clear HO141)
  (try clear BK123)
  (try clear BK145)
  (try clear HB)
  generalize ((w48.setCell ⟨gb145, 0, none⟩ (.bool t142)).setCell ⟨gb145, 1, none⟩ (.int .i64 t143)) = w51 at n0_ n1_ n2_ n3_ n4_ n5_ n6_ n7_ ⊢
  have HO122 := n0_
  have HO126 := n1_
  have HO131 := n2_
  have HO136 := n3_
  have HO141 := n4_
  have BK123 := n5_
  have BK145 := n6_
  have HB := n7_
  clear n0_ n1_ n2_ n3_ n4_ n5_ n6_ n7_
  have n0_ := Aside0.mk (Kd.R_drew HO122.out)
  have n1_ := Aside0.mk (Kd.R_drew HO126.out)
  have n2_ := Aside0.mk (Kd.R_drew HO131.out)
  have n3_ := Aside0.mk (Kd.R_drew HO136.out)
  have n4_ := Aside0.mk (Kd.R_drew HO141.out)
  have n5_ := Aside0.mk (blk_drew BK123.out)
  have n6_ := Aside0.mk (blk_drew BK145.out)
  have n7_ := Aside0.mk (below_drew1 HB.out)
  clear HO122
  clear HO126
  clear HO131
  clear HO136
  clear HO141
  clear BK123
  clear BK145
  clear HB
  have HO122 := n0_
  have HO126 := n1_
  have HO131 := n2_
  have HO136 := n3_
  have HO141 := n4_
  have BK123 := n5_
  have BK145 := n6_
  have HB := n7_
  clear n0_ n1_ n2_ n3_ n4_ n5_ n6_ n7_
  refine start_ (n := 8) (S := fun w' => w'.cell? ⟨gb123, 0, none⟩ = some (.int .i64 t117) ∧ w'.cell? ⟨gb123, 1, none⟩ = some (.int .i64 t118) ∧ w'.cell? ⟨gb123, 2, none⟩ = some (.int .i64 t119) ∧ w'.cell? ⟨gb123, 3, none⟩ = some (.slice Ao27 t120.length co27)) (ds := []) #[false, false, false, false, false, false, false, false] (by kernel_rfl) rfl rfl ⟨(blk_cell BK123.out 0).trans rfl, (blk_cell BK123.out 1).trans rfl, (blk_cell BK123.out 2).trans rfl, (blk_cell BK123.out 3).trans rfl⟩ (fun hHeld => ?_); refine with_tabW rootstocklaw14_lives.tab6 rootstocklaw14_lives.bits6 (fun HT_ HW_ => ?_)
  generalize w51.drew = w52 at HO122 HO126 HO131 HO136 HO141 BK123 BK145 HB hHeld ⊢
  refine take_ (i := 0) (N := some 40) (v := ?_) (a' := ?_) #[true, false, false, false, false, false, false, false] rfl rfl (take_ofW HT_.out HW_.out (by kernel_rfl)) (fun _ _ _ h => h) (Or.inl ⟨by rfl, ?_⟩) hHeld ?_ ?_
  rotate_left
  · rintro w' ⟨s0, s1, s2, s3⟩
    go_simp
    with_reducible rfl
  rotate_left
  · simp only [Act.put, List.setIfInBounds_toArray, List.set_cons_zero, List.set_cons_succ, i64_w, i32_w]
    rfl
  refine one_ (i := 1) (N := some 41) #[true, true, false, false, false, false, false, false] rfl rfl (one_of HT_.out (by kernel_rfl)) (by decide) (fun K hK => ?_)
  refine goes_ Try.func28 (by kernel_rfl) rfl #[.int .i64 3] (by rfl) rfl rfl (by (try simp only [List.map_toArray, List.map_cons, List.map_nil]); first | done | rfl | (simp only [List.length_drop, List.length_take]; rfl)) ?_
  with_reducible refine (rootstocklaw14_Sum.calls k 3 t146 _ A7.out).mono ?_
  rintro e w53 ⟨v147, rfl, ho0, hb⟩
  refine ⟨_, rfl, ?_⟩
  have n0_ := Aside0.mk (Kd.R_elder' (by (with_reducible repeat (first | apply Kd.R_alloc | apply Kd.R_drewN | apply Kd.R_drew)); exact HO122.out) (Kd.R_base ho0) hb)
  have n1_ := Aside0.mk (Kd.R_elder' (by (with_reducible repeat (first | apply Kd.R_alloc | apply Kd.R_drewN | apply Kd.R_drew)); exact HO126.out) (Kd.R_base ho0) hb)
  have n2_ := Aside0.mk (Kd.R_elder' (by (with_reducible repeat (first | apply Kd.R_alloc | apply Kd.R_drewN | apply Kd.R_drew)); exact HO131.out) (Kd.R_base ho0) hb)
  have n3_ := Aside0.mk (Kd.R_elder' (by (with_reducible repeat (first | apply Kd.R_alloc | apply Kd.R_drewN | apply Kd.R_drew)); exact HO136.out) (Kd.R_base ho0) hb)
  have n4_ := Aside0.mk (Kd.R_elder' (by (with_reducible repeat (first | apply Kd.R_alloc | apply Kd.R_drewN | apply Kd.R_drew)); exact HO141.out) (Kd.R_base ho0) hb)
  have n5_ := Aside0.mk (Kd.R_lower (Kd.R_new' (Kd.R_new' (Kd.R_new' (Kd.R_new' ho0 (Kd.R_lt (by (with_reducible repeat (first | apply Kd.R_alloc | apply Kd.R_drewN | apply Kd.R_drew)); exact HO126.out))) (Kd.R_lt (by (with_reducible repeat (first | apply Kd.R_alloc | apply Kd.R_drewN | apply Kd.R_drew)); exact HO131.out))) (Kd.R_lt (by (with_reducible repeat (first | apply Kd.R_alloc | apply Kd.R_drewN | apply Kd.R_drew)); exact HO136.out))) (Kd.R_lt (by (with_reducible repeat (first | apply Kd.R_alloc | apply Kd.R_drewN | apply Kd.R_drew)); exact HO141.out))) (below_size (by repeat (first | (with_reducible first | exact HB.out | apply below_alloc | apply pw_below_drewN | apply below_drew1 | refine below_set ?_ GE123.out | refine below_set ?_ GE145.out) | exact HB.out))))
  have n6_ := Aside0.mk (blk_below (g := gb123) (o := .cells #[.int .i64 t117, .int .i64 t118, .int .i64 t119, .slice Ao27 t120.length co27] 24 (0, 0)) (by (with_reducible repeat (first | refine blk_drewN ?_ _ | refine blk_drew ?_ | refine blk_alloc ?_ _)); exact BK123.out) hb)
  have n7_ := Aside0.mk (blk_below (g := gb145) (o := .cells #[.bool t142, .int .i64 t143] 35 (0, 0)) (by (with_reducible repeat (first | refine blk_drewN ?_ _ | refine blk_drew ?_ | refine blk_alloc ?_ _)); exact BK145.out) hb)
  have n8_ := Aside0.mk (below_step (by repeat (first | (with_reducible first | exact HB.out | apply below_alloc | apply pw_below_drewN | apply below_drew1 | refine below_set ?_ GE123.out | refine below_set ?_ GE145.out) | exact HB.out)) hb)
  clear HO122
  clear HO126
  clear HO131
  clear HO136
  clear HO141
  clear BK123
  clear BK145
  clear HB
  have HO122 := n0_
  have HO126 := n1_
  have HO131 := n2_
  have HO136 := n3_
  have HO141 := n4_
  have HO148 := n5_
  have BK123 := n6_
  have BK145 := n7_
  have HB := n8_
  clear n0_ n1_ n2_ n3_ n4_ n5_ n6_ n7_ n8_
  (try clear hb)
  (try clear hb2)
  (try clear hk)
  (try clear hi)
  (try clear ho0)
  obtain ⟨Ao54, co54, eo54⟩ := Kd.R_slice HO148.out
  (first | subst eo54 | (injection eo54 with f1_ f2_ f3_; have f4_ := f1_.symm; have f5_ := f3_.symm; clear f1_ f2_ f3_; subst f4_; subst f5_))
  refine hK.out _ _ ⟨(blk_cell BK123.out 0).trans rfl, (blk_cell BK123.out 1).trans rfl, (blk_cell BK123.out 2).trans rfl, (blk_cell BK123.out 3).trans rfl⟩ (fun hHeld => ?_)
  clear hK K
  refine norm_ (a' := ?_) ?_ ?_
  rotate_left
  · show Act.put _ (some 41) _ = _
    simp only [Act.put, List.setIfInBounds_toArray, List.set_cons_zero, List.set_cons_succ, i64_w, i32_w]
    rfl
  refine one_ (i := 2) (N := some 42) #[true, true, true, false, false, false, false, false] rfl rfl (one_of HT_.out (by kernel_rfl)) (by decide) (fun K hK => ?_)
  refine goes_ Try.func19 (by kernel_rfl) rfl #[.agg #[.int .i64 t117, .int .i64 t118, .int .i64 t119, .slice Ao27 t120.length co27], .int .i64 2, .slice Ao54 t146.length co54] (by rfl) rfl rfl (by (try simp only [List.map_toArray, List.map_cons, List.map_nil]); first | done | rfl | (simp only [List.length_drop, List.length_take]; rfl)) ?_
  with_reducible refine (derive_Count.calls t117 t118 t119 _ _ t120 2 _ _ t146 t149 t150 _ ?side1 ?side2 ?side3 ?side4 A8.out).mono ?_
  (case side1 => repeat (first | exact (Kd.R_reads' HO122.out).2.2 | (with_reducible refine Kd.C_alloc ?_ _) | (with_reducible refine Kd.C_drewN ?_ _) | (with_reducible refine Kd.C_drew ?_)))
  (case side2 => exact (Kd.R_reads' HO122.out).2.1)
  (case side3 => repeat (first | exact (Kd.R_reads' HO148.out).2.2 | (with_reducible refine Kd.C_alloc ?_ _) | (with_reducible refine Kd.C_drewN ?_ _) | (with_reducible refine Kd.C_drew ?_)))
  (case side4 => exact (Kd.R_reads' HO148.out).2.1)
  rintro e w55 ⟨rfl, hb⟩
  refine ⟨_, rfl, ?_⟩
  have n0_ := Aside0.mk (Kd.R_below (by (with_reducible repeat (first | apply Kd.R_alloc | apply Kd.R_drewN | apply Kd.R_drew)); exact HO122.out) hb)
  have n1_ := Aside0.mk (Kd.R_below (by (with_reducible repeat (first | apply Kd.R_alloc | apply Kd.R_drewN | apply Kd.R_drew)); exact HO126.out) hb)
  have n2_ := Aside0.mk (Kd.R_below (by (with_reducible repeat (first | apply Kd.R_alloc | apply Kd.R_drewN | apply Kd.R_drew)); exact HO131.out) hb)
  have n3_ := Aside0.mk (Kd.R_below (by (with_reducible repeat (first | apply Kd.R_alloc | apply Kd.R_drewN | apply Kd.R_drew)); exact HO136.out) hb)
  have n4_ := Aside0.mk (Kd.R_below (by (with_reducible repeat (first | apply Kd.R_alloc | apply Kd.R_drewN | apply Kd.R_drew)); exact HO141.out) hb)
  have n5_ := Aside0.mk (Kd.R_below (by (with_reducible repeat (first | apply Kd.R_alloc | apply Kd.R_drewN | apply Kd.R_drew)); exact HO148.out) hb)
  have n6_ := Aside0.mk (blk_below (g := gb123) (o := .cells #[.int .i64 t117, .int .i64 t118, .int .i64 t119, .slice Ao27 t120.length co27] 24 (0, 0)) (by (with_reducible repeat (first | refine blk_drewN ?_ _ | refine blk_drew ?_ | refine blk_alloc ?_ _)); exact BK123.out) hb)
  have n7_ := Aside0.mk (blk_below (g := gb145) (o := .cells #[.bool t142, .int .i64 t143] 35 (0, 0)) (by (with_reducible repeat (first | refine blk_drewN ?_ _ | refine blk_drew ?_ | refine blk_alloc ?_ _)); exact BK145.out) hb)
  have n8_ := Aside0.mk (below_step (by repeat (first | (with_reducible first | exact HB.out | apply below_alloc | apply pw_below_drewN | apply below_drew1 | refine below_set ?_ GE123.out | refine below_set ?_ GE145.out) | exact HB.out)) hb)
  clear HO122
  clear HO126
  clear HO131
  clear HO136
  clear HO141
  clear HO148
  clear BK123
  clear BK145
  clear HB
  have HO122 := n0_
  have HO126 := n1_
  have HO131 := n2_
  have HO136 := n3_
  have HO141 := n4_
  have HO148 := n5_
  have BK123 := n6_
  have BK145 := n7_
  have HB := n8_
  clear n0_ n1_ n2_ n3_ n4_ n5_ n6_ n7_ n8_
  (try clear hb)
  (try clear hb2)
  (try clear hk)
  (try clear hi)
  refine hK.out _ _ ⟨(blk_cell BK123.out 0).trans rfl, (blk_cell BK123.out 1).trans rfl, (blk_cell BK123.out 2).trans rfl, (blk_cell BK123.out 3).trans rfl⟩ (fun hHeld => ?_)
  clear hK K
  refine norm_ (a' := ?_) ?_ ?_
  rotate_left
  · show Act.put _ (some 42) _ = _
    simp only [Act.put, List.setIfInBounds_toArray, List.set_cons_zero, List.set_cons_succ, i64_w, i32_w]
    rfl
  refine pure_ (i := 3) (N := some 39) (v := ?_) (a' := ?_) #[true, true, true, true, false, false, false, false] rfl rfl (any_of HT_.out (by kernel_rfl)) (fun _ _ _ h => h) (Or.inl ⟨by rfl, ?_⟩) ?_ ?_
  rotate_left
  · intro w'
    go_simp
    with_reducible rfl
  rotate_left
  · simp only [Act.put, List.setIfInBounds_toArray, List.set_cons_zero, List.set_cons_succ, i64_w, i32_w]
    rfl
  refine pure_ (i := 4) (N := some 43) (v := ?_) (a' := ?_) #[true, true, true, true, true, false, false, false] rfl rfl (any_of HT_.out (by kernel_rfl)) (fun _ _ _ h => h) (Or.inl ⟨by rfl, ?_⟩) ?_ ?_
  rotate_left
  · intro w'
    go_simp
    with_reducible rfl
  rotate_left
  · simp only [Act.put, List.setIfInBounds_toArray, List.set_cons_zero, List.set_cons_succ, i64_w, i32_w]
    rfl
  refine pure_ (i := 5) (N := some 44) (v := ?_) (a' := ?_) #[true, true, true, true, true, true, false, false] rfl rfl (any_of HT_.out (by kernel_rfl)) (fun _ _ _ h => h) (Or.inl ⟨by rfl, ?_⟩) ?_ ?_
  rotate_left
  · intro w'
    go_simp
    with_reducible rfl
  rotate_left
  · simp only [Act.put, List.setIfInBounds_toArray, List.set_cons_zero, List.set_cons_succ, i64_w, i32_w]
    rfl
  refine pure_ (i := 6) (N := some 10) (v := ?_) (a' := ?_) #[true, true, true, true, true, true, true, false] rfl rfl (any_of HT_.out (by kernel_rfl)) (fun _ _ _ h => h) (Or.inl ⟨by rfl, ?_⟩) ?_ ?_
  rotate_left
  · intro w'
    go_simp
    with_reducible rfl
  rotate_left
  · simp only [Act.put, List.setIfInBounds_toArray, List.set_cons_zero, List.set_cons_succ, i64_w, i32_w]
    rfl
  refine pure_ (i := 7) (N := some 11) (v := ?_) (a' := ?_) #[true, true, true, true, true, true, true, true] rfl rfl (any_of HT_.out (by kernel_rfl)) (fun _ _ _ h => h) (Or.inl ⟨by rfl, ?_⟩) ?_ ?_
  rotate_left
  · intro w'
    go_simp
    with_reducible rfl
  rotate_left
  · simp only [Act.put, List.setIfInBounds_toArray, List.set_cons_zero, List.set_cons_succ, i64_w, i32_w]
    rfl
  refine done_ (done_of HT_.out (by kernel_rfl)) ?_
  have hcz56_0 : w55.cell? ⟨gb123, 0, none⟩ = some (.int .i64 t117) := (blk_cell BK123.out 0).trans rfl
  have hcz56_1 : w55.cell? ⟨gb123, 1, none⟩ = some (.int .i64 t118) := (blk_cell BK123.out 1).trans rfl
  have hcz56_2 : w55.cell? ⟨gb123, 2, none⟩ = some (.int .i64 t119) := (blk_cell BK123.out 2).trans rfl
  have hcz56_3 : w55.cell? ⟨gb123, 3, none⟩ = some (.slice Ao27 t120.length co27) := (blk_cell BK123.out 3).trans rfl
  have hfz56_0 := blk_frozen BK123.out 0
  have hfz56_1 := blk_frozen BK123.out 1
  have hfz56_2 := blk_frozen BK123.out 2
  have hfz56_3 := blk_frozen BK123.out 3
  try go_wp2_with (first | ((with_reducible refine gate_callee (f := 11) rfl ?_); refine goesL_ (some 47) rfl rfl Try.func11 (by kernel_rfl) rfl #[.agg #[.int .i64 t117, .int .i64 t118, .int .i64 t119, .slice Ao27 t120.length co27], .int .i64 3, .slice none 0 0] rfl (by (try simp only [List.map_toArray, List.map_cons, List.map_nil]); first | done | rfl | (simp only [List.length_drop, List.length_take]; rfl)) ?_; (refine (derive_Derives.calls t117 t118 t119 _ _ t120 3 _ _ ([] : List Int) t151 t152 _ ?side1 ?side2 ?side3 ?side4 A9.out).mono ?_); (case side1 => repeat (first | exact (Kd.R_reads' HO122.out).2.2 | (with_reducible refine Kd.C_alloc ?_ _) | (with_reducible refine Kd.C_drewN ?_ _) | (with_reducible refine Kd.C_drew ?_))); (case side2 => exact (Kd.R_reads' HO122.out).2.1); (case side3 => exact Kd.C_nil _ _); (case side4 => exact Nat.le_refl _); rintro e w57 ⟨rfl, hb⟩; refine ⟨_, rfl, ?_⟩; have n0_ := Aside0.mk (Kd.R_below (by (with_reducible repeat (first | apply Kd.R_alloc | apply Kd.R_drewN | apply Kd.R_drew)); exact HO122.out) hb); have n1_ := Aside0.mk (Kd.R_below (by (with_reducible repeat (first | apply Kd.R_alloc | apply Kd.R_drewN | apply Kd.R_drew)); exact HO126.out) hb); have n2_ := Aside0.mk (Kd.R_below (by (with_reducible repeat (first | apply Kd.R_alloc | apply Kd.R_drewN | apply Kd.R_drew)); exact HO131.out) hb); have n3_ := Aside0.mk (Kd.R_below (by (with_reducible repeat (first | apply Kd.R_alloc | apply Kd.R_drewN | apply Kd.R_drew)); exact HO136.out) hb); have n4_ := Aside0.mk (Kd.R_below (by (with_reducible repeat (first | apply Kd.R_alloc | apply Kd.R_drewN | apply Kd.R_drew)); exact HO141.out) hb); have n5_ := Aside0.mk (Kd.R_below (by (with_reducible repeat (first | apply Kd.R_alloc | apply Kd.R_drewN | apply Kd.R_drew)); exact HO148.out) hb); have n6_ := Aside0.mk (blk_below (g := gb123) (o := .cells #[.int .i64 t117, .int .i64 t118, .int .i64 t119, .slice Ao27 t120.length co27] 24 (0, 0)) (by (with_reducible repeat (first | refine blk_drewN ?_ _ | refine blk_drew ?_ | refine blk_alloc ?_ _)); exact BK123.out) hb); have n7_ := Aside0.mk (blk_below (g := gb145) (o := .cells #[.bool t142, .int .i64 t143] 35 (0, 0)) (by (with_reducible repeat (first | refine blk_drewN ?_ _ | refine blk_drew ?_ | refine blk_alloc ?_ _)); exact BK145.out) hb); have n8_ := Aside0.mk (below_step (by repeat (first | (with_reducible first | exact HB.out | apply below_alloc | apply pw_below_drewN | apply below_drew1 | refine below_set ?_ GE123.out | refine below_set ?_ GE145.out) | exact HB.out)) hb); clear HO122; clear HO126; clear HO131; clear HO136; clear HO141; clear HO148; clear BK123; clear BK145; clear HB; have HO122 := n0_; have HO126 := n1_; have HO131 := n2_; have HO136 := n3_; have HO141 := n4_; have HO148 := n5_; have BK123 := n6_; have BK145 := n7_; have HB := n8_; clear n0_ n1_ n2_ n3_ n4_ n5_ n6_ n7_ n8_; (try clear hb); (try clear hb2); (try clear hk); (try clear hi); have hcz58_0 : w57.cell? ⟨gb145, 0, none⟩ = some (.bool t142) := (blk_cell BK145.out 0).trans rfl; have hcz58_1 : w57.cell? ⟨gb145, 1, none⟩ = some (.int .i64 t143) := (blk_cell BK145.out 1).trans rfl; have hfz58_0 := blk_frozen BK145.out 0; have hfz58_1 := blk_frozen BK145.out 1; have hcz59_0 : w57.cell? ⟨gb123, 0, none⟩ = some (.int .i64 t117) := (blk_cell BK123.out 0).trans rfl; have hcz59_1 : w57.cell? ⟨gb123, 1, none⟩ = some (.int .i64 t118) := (blk_cell BK123.out 1).trans rfl; have hcz59_2 : w57.cell? ⟨gb123, 2, none⟩ = some (.int .i64 t119) := (blk_cell BK123.out 2).trans rfl; have hcz59_3 : w57.cell? ⟨gb123, 3, none⟩ = some (.slice Ao27 t120.length co27) := (blk_cell BK123.out 3).trans rfl; have hfz59_0 := blk_frozen BK123.out 0; have hfz59_1 := blk_frozen BK123.out 1; have hfz59_2 := blk_frozen BK123.out 2; have hfz59_3 := blk_frozen BK123.out 3) | (go_at_call 22; (refine (derive_Fits.calls t117 t118 t119 _ _ t120 0 (-1) _ _ ([] : List (S43)) t153 _ ?side1 ?side2 ?side3 ?side4 A21.out).mono ?_); (case side1 => repeat (first | exact (Kd.R_reads' HO122.out).2.2 | (with_reducible refine Kd.C_alloc ?_ _) | (with_reducible refine Kd.C_drewN ?_ _) | (with_reducible refine Kd.C_drew ?_))); (case side2 => exact (Kd.R_reads' HO122.out).2.1); (case side3 => exact Kd.C_nil _ _); (case side4 => exact Nat.le_refl _); rintro e w60 ⟨rfl, hb⟩; have n0_ := Aside0.mk (Kd.R_below (by (with_reducible repeat (first | apply Kd.R_alloc | apply Kd.R_drewN | apply Kd.R_drew)); exact HO122.out) hb); have n1_ := Aside0.mk (Kd.R_below (by (with_reducible repeat (first | apply Kd.R_alloc | apply Kd.R_drewN | apply Kd.R_drew)); exact HO126.out) hb); have n2_ := Aside0.mk (Kd.R_below (by (with_reducible repeat (first | apply Kd.R_alloc | apply Kd.R_drewN | apply Kd.R_drew)); exact HO131.out) hb); have n3_ := Aside0.mk (Kd.R_below (by (with_reducible repeat (first | apply Kd.R_alloc | apply Kd.R_drewN | apply Kd.R_drew)); exact HO136.out) hb); have n4_ := Aside0.mk (Kd.R_below (by (with_reducible repeat (first | apply Kd.R_alloc | apply Kd.R_drewN | apply Kd.R_drew)); exact HO141.out) hb); have n5_ := Aside0.mk (Kd.R_below (by (with_reducible repeat (first | apply Kd.R_alloc | apply Kd.R_drewN | apply Kd.R_drew)); exact HO148.out) hb); have n6_ := Aside0.mk (blk_below (g := gb123) (o := .cells #[.int .i64 t117, .int .i64 t118, .int .i64 t119, .slice Ao27 t120.length co27] 24 (0, 0)) (by (with_reducible repeat (first | refine blk_drewN ?_ _ | refine blk_drew ?_ | refine blk_alloc ?_ _)); exact BK123.out) hb); have n7_ := Aside0.mk (blk_below (g := gb145) (o := .cells #[.bool t142, .int .i64 t143] 35 (0, 0)) (by (with_reducible repeat (first | refine blk_drewN ?_ _ | refine blk_drew ?_ | refine blk_alloc ?_ _)); exact BK145.out) hb); have n8_ := Aside0.mk (below_step (by repeat (first | (with_reducible first | exact HB.out | apply below_alloc | apply pw_below_drewN | apply below_drew1 | refine below_set ?_ GE123.out | refine below_set ?_ GE145.out) | exact HB.out)) hb); clear HO122; clear HO126; clear HO131; clear HO136; clear HO141; clear HO148; clear BK123; clear BK145; clear HB; have HO122 := n0_; have HO126 := n1_; have HO131 := n2_; have HO136 := n3_; have HO141 := n4_; have HO148 := n5_; have BK123 := n6_; have BK145 := n7_; have HB := n8_; clear n0_ n1_ n2_ n3_ n4_ n5_ n6_ n7_ n8_; (try clear hb); (try clear hb2); (try clear hk); (try clear hi)) | (go_at_call 26; (refine (derive_Yield.calls 0 0 _ _ ([] : List (S43)) t154 _ ?side1 ?side2 A23.out).mono ?_); (case side1 => exact Kd.C_nil _ _); (case side2 => exact Nat.le_refl _); rintro e w61 ⟨v155, rfl, ho0, hb⟩; have n0_ := Aside0.mk (Kd.R_elder' (by (with_reducible repeat (first | apply Kd.R_alloc | apply Kd.R_drewN | apply Kd.R_drew)); exact HO122.out) (Kd.R_base ho0) hb); have n1_ := Aside0.mk (Kd.R_elder' (by (with_reducible repeat (first | apply Kd.R_alloc | apply Kd.R_drewN | apply Kd.R_drew)); exact HO126.out) (Kd.R_base ho0) hb); have n2_ := Aside0.mk (Kd.R_elder' (by (with_reducible repeat (first | apply Kd.R_alloc | apply Kd.R_drewN | apply Kd.R_drew)); exact HO131.out) (Kd.R_base ho0) hb); have n3_ := Aside0.mk (Kd.R_elder' (by (with_reducible repeat (first | apply Kd.R_alloc | apply Kd.R_drewN | apply Kd.R_drew)); exact HO136.out) (Kd.R_base ho0) hb); have n4_ := Aside0.mk (Kd.R_elder' (by (with_reducible repeat (first | apply Kd.R_alloc | apply Kd.R_drewN | apply Kd.R_drew)); exact HO141.out) (Kd.R_base ho0) hb); have n5_ := Aside0.mk (Kd.R_elder' (by (with_reducible repeat (first | apply Kd.R_alloc | apply Kd.R_drewN | apply Kd.R_drew)); exact HO148.out) (Kd.R_base ho0) hb); have n6_ := Aside0.mk (Kd.R_lower (Kd.R_new' (Kd.R_new' (Kd.R_new' (Kd.R_new' (Kd.R_new' ho0 (Kd.R_lt (by (with_reducible repeat (first | apply Kd.R_alloc | apply Kd.R_drewN | apply Kd.R_drew)); exact HO126.out))) (Kd.R_lt (by (with_reducible repeat (first | apply Kd.R_alloc | apply Kd.R_drewN | apply Kd.R_drew)); exact HO131.out))) (Kd.R_lt (by (with_reducible repeat (first | apply Kd.R_alloc | apply Kd.R_drewN | apply Kd.R_drew)); exact HO136.out))) (Kd.R_lt (by (with_reducible repeat (first | apply Kd.R_alloc | apply Kd.R_drewN | apply Kd.R_drew)); exact HO141.out))) (Kd.R_lt (by (with_reducible repeat (first | apply Kd.R_alloc | apply Kd.R_drewN | apply Kd.R_drew)); exact HO148.out))) (below_size (by repeat (first | (with_reducible first | exact HB.out | apply below_alloc | apply pw_below_drewN | apply below_drew1 | refine below_set ?_ GE123.out | refine below_set ?_ GE145.out) | exact HB.out)))); have n7_ := Aside0.mk (blk_below (g := gb123) (o := .cells #[.int .i64 t117, .int .i64 t118, .int .i64 t119, .slice Ao27 t120.length co27] 24 (0, 0)) (by (with_reducible repeat (first | refine blk_drewN ?_ _ | refine blk_drew ?_ | refine blk_alloc ?_ _)); exact BK123.out) hb); have n8_ := Aside0.mk (blk_below (g := gb145) (o := .cells #[.bool t142, .int .i64 t143] 35 (0, 0)) (by (with_reducible repeat (first | refine blk_drewN ?_ _ | refine blk_drew ?_ | refine blk_alloc ?_ _)); exact BK145.out) hb); have n9_ := Aside0.mk (below_step (by repeat (first | (with_reducible first | exact HB.out | apply below_alloc | apply pw_below_drewN | apply below_drew1 | refine below_set ?_ GE123.out | refine below_set ?_ GE145.out) | exact HB.out)) hb); clear HO122; clear HO126; clear HO131; clear HO136; clear HO141; clear HO148; clear BK123; clear BK145; clear HB; have HO122 := n0_; have HO126 := n1_; have HO131 := n2_; have HO136 := n3_; have HO141 := n4_; have HO148 := n5_; have HO156 := n6_; have BK123 := n7_; have BK145 := n8_; have HB := n9_; clear n0_ n1_ n2_ n3_ n4_ n5_ n6_ n7_ n8_ n9_; (try clear hb); (try clear hb2); (try clear hk); (try clear hi); (try clear ho0); obtain ⟨Ao62, co62, eo62⟩ := Kd.R_slice HO156.out; subst eo62))
  go_ret
  exact ⟨by first | rfl | (simp [errW_none, errW_some] <;> rfl) | (simp [*, errW_none, errW_some] <;> rfl), by repeat (first | (with_reducible first | exact HB.out | apply below_alloc | apply pw_below_drewN | apply below_drew1 | refine below_set ?_ GE123.out | refine below_set ?_ GE145.out) | exact HB.out)⟩
end Go.Proofs.Ytadabkkkalgehaa.PLi
namespace Go.Proofs.Ytadabkkkalgehaa.H
set_option linter.unusedVariables false
set_option linter.unusedSimpArgs false
def sumsG : Gr := ⟨2, 3, 2, [⟨2, [2, 1, 2], false⟩, ⟨2, [0], false⟩]⟩
theorem sums_check : checkI sumsG = 0 := by decide +kernel
theorem sums_gr : GrD sumsG 1 := by
  refine ⟨GrIn.ok sums_check, by decide, fun s h0 h1 => ?_⟩
  have h1' : s < 3 := h1
  have : s = 0 ∨ s = 1 ∨ s = 2 := by omega
  unfold Rk Rk
  rcases this with rfl | rfl | rfl <;> decide
theorem sums_num (row : List Int) {s : Int} {f t : Nat} (h0 : 0 ≤ s) (h1 : s < 3) (hft : f ≤ t) (ht : t ≤ row.length) : numS sumsG row s f t = (cnt sumsG row (depN 1 row.length)).1 s f t :=
  num_eval sums_gr (Nat.le_refl _) h0 h1 hft ht
theorem sums_start (s : Int) (row : List Int) : startE sumsG s row = if ¬ (0 ≤ s ∧ s < 3) then 2 else if row.all (termB sumsG) = false then 2 else if 64 < row.length then 3 else 0 := by
  unfold startE
  rw [sums_check, if_neg (by simp)]
  rfl
theorem lv1 : derR sumsG 2 [0, 1, 0] = (true, 0) := by
  unfold derR
  rw [sums_start, sums_num _ (by decide) (by decide) (by decide) (Nat.le_refl _)]
  decide +kernel
theorem lv2 : derR sumsG 2 [0, 1] = (false, 0) := by
  unfold derR
  rw [sums_start, sums_num _ (by decide) (by decide) (by decide) (Nat.le_refl _)]
  decide +kernel
theorem lv3 : derR sumsG 2 [0, 0] = (false, 0) := by
  unfold derR
  rw [sums_start, sums_num _ (by decide) (by decide) (by decide) (Nat.le_refl _)]
  decide +kernel
theorem lv4 : countR sumsG 2 [0, 1, 0, 1, 0] = (2, 0) := by
  unfold countR
  rw [sums_start, sums_num _ (by decide) (by decide) (by decide) (Nat.le_refl _)]
  decide +kernel
theorem lv5 : derR sumsG 3 [] = (false, 2) := by
  unfold derR
  rw [sums_start, if_neg (by decide)]
  rfl
theorem via_of {g : Gr} {row : List Int} {b : Bool} (h : startE g g.st row = 0) (hb : Be g row g.st 0 ↔ b = true) : viaR g row = (b, 0) := by
  unfold viaR
  rw [if_pos h]
  congr 1
  rw [Bool.eq_iff_iff, beB_iff]
  exact hb
theorem lv6 : viaR sumsG [0, 1] = (true, 0) := by
  refine via_of (by rw [show sumsG.st = 2 from rfl, sums_start]; decide) ⟨fun _ => rfl, fun _ => ?_⟩
  refine ⟨1, .inr ⟨by decide, 0, by decide, rfl, 1, 1, by decide, ⟨0, rfl, by decide, by decide, ?_⟩, .inr ⟨by decide, by decide, by decide⟩⟩⟩
  show 0 < numS sumsG [0, 1] 2 0 1
  rw [sums_num _ (by decide) (by decide) (by decide) (by decide)]
  decide +kernel
theorem lv7 : viaR sumsG [0] = (true, 0) := by
  refine via_of (by rw [show sumsG.st = 2 from rfl, sums_start]; decide) ⟨fun _ => rfl, fun _ => ?_⟩
  exact ⟨1, .inr ⟨by decide, 1, by decide, rfl, 0, 0, by decide, rfl, .inr ⟨by decide, by decide, by decide⟩⟩⟩
theorem lv8 : viaR sumsG [0, 0] = (false, 0) := by
  refine via_of (by rw [show sumsG.st = 2 from rfl, sums_start]; decide) ⟨fun h => ?_, fun h => by cases h⟩
  exfalso
  obtain ⟨n, hn⟩ := h
  have key : ∀ n, ¬ BeN sumsG [0, 0] n 2 0 := by
    intro n
    induction n with
    | zero =>
      rintro (h | ⟨h, _⟩)
      · revert h; decide
      · revert h; decide
    | succ n ih =>
      rintro (h | ⟨_, p, hp, hh, i, q, hi, hr, hb⟩)
      · exact ih h
      · have hp2 : p < 2 := hp
        have : p = 0 ∨ p = 1 := by omega
        rcases this with rfl | rfl
        · have hi3 : i < 3 := hi
          have : i = 0 ∨ i = 1 ∨ i = 2 := by omega
          rcases this with rfl | rfl | rfl
          · have : q = 0 := hr
            subst this
            exact ih hb
          · obtain ⟨q', h1, h2, h3, h4⟩ := hr
            have : q' = 0 := h1
            subst this
            have h3' : q ≤ 2 := h3
            rcases BeN.term (by decide) hb with h | ⟨h, h'⟩
            · have : q = 2 := h
              subst this
              rw [sums_num _ (by decide) (by decide) (by decide) (by decide)] at h4
              revert h4
              decide +kernel
            · have : q = 1 := by simpa using h
              subst this
              revert h'
              decide
          · obtain ⟨q', h1, h2, h3, h4⟩ := hr
            have h3' : q ≤ 2 := h3
            obtain ⟨q2, k1, k2, k3, k4⟩ := h1
            have : q2 = 0 := k1
            subst this
            have : q' = 1 := by omega
            subst this
            have : q = 2 := by omega
            subst this
            have h4' : 0 < numS sumsG [0, 0] 1 1 2 := h4
            rw [sums_num _ (by decide) (by decide) (by decide) (by decide)] at h4'
            revert h4'
            decide +kernel
        · have hi1 : i < 1 := hi
          have : i = 0 := by omega
          subst this
          have : q = 0 := hr
          subst this
          rcases BeN.term (by decide) hb with h | ⟨h, h'⟩
          · revert h; decide
          · revert h; decide
  exact key n hn
end Go.Proofs.Ytadabkkkalgehaa.H
namespace Go.Proofs.Ytadabkkkalgehaa.PLi
open Go.RowKit Go.Proofs.YtadabkkkalgehaaW.PrintWords Go.Proofs.YtadabkkkalgehaaW.PrintLast Go.Proofs.YtadabkkkalgehaaW.PrintMore
set_option linter.unusedVariables false
set_option linter.unusedSimpArgs false
def sumsL : List S55 := [⟨2, [2, 1, 2], false⟩, ⟨2, [0], false⟩]
theorem sums_to : toGr 2 3 2 sumsL = H.sumsG := rfl
theorem der_s (s : Int) (l : List Int) : derive_Derives.f 2 3 2 sumsL s l = some (H.derR H.sumsG s l) := rfl
theorem via_s (l : List Int) : derive_Viable.f 2 3 2 sumsL l = some (H.viaR H.sumsG l) := rfl
theorem cnt_s (s : Int) (l : List Int) : derive_Count.f 2 3 2 sumsL s l = some (H.countR H.sumsG s l) := rfl
theorem lives_j : derive_Judge.f 20 2 3 2 sumsL [0, 0] = some (false, 1, 0) := by
  have e1 : wrap64 (0 + 1) = 1 := by decide +kernel
  have e2 : wrap64 (1 + 1) = 2 := by decide +kernel
  unfold derive_Judge.f
  rw [der_s, H.lv3, Option.bind_some, if_pos rfl, if_neg (by decide)]
  unfold derive_Judge.l0
  rw [if_pos (by decide), e1, if_pos (by decide), if_pos (by decide), via_s, show ([0, 0] : List Int).take (1 : Int).toNat = [0] from rfl, H.lv7, Option.bind_some, if_pos rfl]
  unfold derive_Judge.l0
  rw [if_pos (by decide), e2, if_pos (by decide), if_pos (by decide), via_s, show ([0, 0] : List Int).take (2 : Int).toNat = [0, 0] from rfl, H.lv8, Option.bind_some, if_neg (by decide)]
theorem lives_s2 : rootstocklaw14_Sum.f 20 2 = some [0, 1, 0] := by decide +kernel
theorem lives_s3 : rootstocklaw14_Sum.f 20 3 = some [0, 1, 0, 1, 0] := by decide +kernel
theorem lives_ft : derive_Fits.f 2 3 2 sumsL 0 (-1) [] = some 0 := by
  unfold derive_Fits.f
  rw [sums_to, H.sums_check]
  rfl
theorem lives_y : derive_Yield.f 0 0 [] = some [0] := by
  unfold derive_Yield.f
  have : yl ⟨0, 0, []⟩ = [0] := by simp [yl, yls]
  rw [this]
  rfl
theorem lives_true : rootstocklaw14_lives.f 20 = some true := by
  unfold rootstocklaw14_lives.f
  rw [show rootstocklaw14_Sums.f = some (2, 3, 2, sumsL) from rfl, Option.bind_some, lives_s2, Option.bind_some]
  dsimp only
  rw [der_s, H.lv1, Option.bind_some, der_s, H.lv2, Option.bind_some, via_s, H.lv6, Option.bind_some, lives_j, Option.bind_some, lives_s3, Option.bind_some, cnt_s, H.lv4, Option.bind_some, der_s, H.lv5, Option.bind_some]
  rw [lives_ft, lives_y]
  rfl
end Go.Proofs.Ytadabkkkalgehaa.PLi
namespace Go.Proofs.Ytadabkkkalgehaa.H
open Go.RowKit
theorem lives_any (w : World) : Calls Try.prog 10 #[] w fun e w' => e = .returned (.bool true) ∧ Below w.heap.size w w' :=
  Go.Proofs.Ytadabkkkalgehaa.PLi.rootstocklaw14_lives.calls 20 true w rfl Go.Proofs.Ytadabkkkalgehaa.PLi.lives_true
end Go.Proofs.Ytadabkkkalgehaa.H
namespace Go.Proofs.Ytadabkkkalgehaa.H
open Go.RowKit
set_option linter.unusedVariables false
set_option linter.unusedSimpArgs false
theorem refSymbol (g : Gr) (s : Int) (A : Option Addr) (c : Nat) (w : World) :
    Calls Try.prog 69 #[grV g A c, .int .i64 s] w fun e w' => e = .returned (.bool (decide (0 ≤ s) && decide (s < g.S))) ∧ Below w.heap.size w w' := by
  obtain ⟨T, S, st, ps⟩ := g
  unfold grV
  dsimp only
  by_cases h : 0 ≤ s
  · have h1 : decide (0 ≤ s) = true := by simp [h]
    rw [h1, Bool.true_and]
    go_enter Try.func69, Try.ntmps69
    go_wp2
    go_ret
    exact ⟨rfl, (Below.refl _ _).alloc (Nat.le_refl _) _⟩
  · have h1 : decide (0 ≤ s) = false := by simp; omega
    rw [h1, Bool.false_and]
    go_enter Try.func69, Try.ntmps69
    go_wp2
    go_ret
    exact ⟨rfl, (Below.refl _ _).alloc (Nat.le_refl _) _⟩
theorem refHead (g : Gr) (s : Int) (A : Option Addr) (c : Nat) (w : World) :
    Calls Try.prog 68 #[grV g A c, .int .i64 s] w fun e w' => e = .returned (.bool (decide (g.T ≤ s) && decide (s < g.S))) ∧ Below w.heap.size w w' := by
  obtain ⟨T, S, st, ps⟩ := g
  unfold grV
  dsimp only
  by_cases h : T ≤ s
  · have h1 : decide (T ≤ s) = true := by simp [h]
    rw [h1, Bool.true_and]
    go_enter Try.func68, Try.ntmps68
    go_wp2
    go_ret
    exact ⟨rfl, (Below.refl _ _).alloc (Nat.le_refl _) _⟩
  · have h1 : decide (T ≤ s) = false := by simp; omega
    rw [h1, Bool.false_and]
    go_enter Try.func68, Try.ntmps68
    go_wp2
    go_ret
    exact ⟨rfl, (Below.refl _ _).alloc (Nat.le_refl _) _⟩
set_option maxHeartbeats 2000000 in
theorem refSame (a b : Pr) (Aa Ab : Option Addr) (ca cb : Nat) (w : World) (hl : a.body.length ≤ 9223372036854775807) (hla : a.body.length ≤ ca) (hlb : b.body.length ≤ cb)
    (h1 : Rd eI 1 w w.heap.size Aa a.body) (h2 : Rd eI 1 w w.heap.size Ab b.body) :
    Calls Try.prog 70 #[prV a Aa ca, prV b Ab cb] w fun e w' => e = .returned (.bool (sameP a b)) ∧ Below w.heap.size w w' := by
  have R1 := Keep.mk h1
  have R2 := Keep.mk h2
  clear h1 h2
  have HS : Keep (sameP a b = (decide (b.head = a.head) && decide (b.body = a.body))) := ⟨rfl⟩
  generalize sameP a b = RES at *
  obtain ⟨ha, xs, ra⟩ := a
  obtain ⟨hb, ys, rb⟩ := b
  unfold prV
  dsimp only at *
  have B0 : Keep (Below w.heap.size w ((w.alloc (.cells #[.int .i64 ha, .slice Aa xs.length ca, .bool ra] 55)).alloc (.cells #[.int .i64 hb, .slice Ab ys.length cb, .bool rb] 55))) := ⟨((Below.refl _ _).alloc (Nat.le_refl _) _).alloc (by simp) _⟩
  by_cases hh : ha = hb
  · by_cases hne : xs.length = ys.length
    · have t1 : ((ha : Int) != hb) = false := by simp [hh]
      have t2 : ((xs.length : Int) != ys.length) = false := by simp [hne]
      have HH := Keep.mk hh
      have Hne := Keep.mk hne
      clear hh hne
      go_enter Try.func70, Try.ntmps70
      go_wp2
      go_loopg [5] xs.length (fun gg s5 wr => ∃ k : Nat, k ≤ xs.length ∧ xs.length - k ≤ gg ∧ s5 = .int .i64 k ∧ Keep (∀ j, j < k → xs[j]? = ys[j]?) ∧ Keep (Below w.heap.size w wr) ∧
        Keep (Blk wr w.heap.size 55 #[.int .i64 ha, .slice Aa xs.length ca, .bool ra]) ∧ Keep (Blk wr (w.heap.size + 1) 55 #[.int .i64 hb, .slice Ab ys.length cb, .bool rb]))
      case atStart => exact ⟨0, Nat.zero_le _, by omega, rfl, ⟨fun j hj => absurd hj (Nat.not_lt_zero _)⟩, B0, ⟨(Blk.new _ _ _).alloc _⟩, ⟨Blk.newAt (by simp)⟩⟩
      case round =>
        clear B0
        obtain ⟨k, hk, hg, rfl, HA, B0, BA, BB⟩ := hrel
        have qa := BA.out.cell 1
        have qb := BB.out.cell 1
        simp at qa qb
        by_cases hlt : k < xs.length
        · have hlt2 : k < ys.length := by have := Hne.out; omega
          obtain ⟨a1, rfl, hb1, hc1⟩ := R1.out.int k hlt
          obtain ⟨a2, rfl, hb2, hc2⟩ := R2.out.int k hlt2
          replace hc1 := cell_below hc1 B0.out (by rw [add_block]; exact hb1)
          replace hc2 := cell_below hc2 B0.out (by rw [add_block]; exact hb2)
          generalize hx : xs[k] = x at *
          generalize hy : ys[k] = y at *
          have Hx := Keep.mk hx
          have Hy := Keep.mk hy
          clear hx hy
          have i1 : (0:Int) ≤ k := by omega
          have i2 : (k : Int) < xs.length := by omega
          have i3 : (k : Int) < ys.length := by omega
          by_cases hxy : x = y
          · have t : ((x : Int) != y) = false := by simp [hxy]
            have Hxy := Keep.mk hxy
            clear hxy
            go_wp2
            go_quiet (fail)
            go_wp2
            go_roundg (xs.length - (k + 1))
            case measure => omega
            case rel =>
              refine ⟨k + 1, by omega, by omega, by go_num, ⟨fun j hj => ?_⟩, ⟨below_drewN B0.out _⟩, ⟨BA.out.drewN _⟩, ⟨BB.out.drewN _⟩⟩
              by_cases e : j = k
              · subst e
                rw [List.getElem?_eq_getElem hlt, List.getElem?_eq_getElem hlt2, Hx.out, Hy.out, Hxy.out]
              · exact HA.out j (by omega)
          · have t : ((x : Int) != y) = true := by simp [hxy]
            have Hxy := Keep.mk hxy
            clear hxy
            go_wp2
            go_quiet (fail)
            go_wp2
            go_ret
            refine ⟨?_, below_drewN B0.out _⟩
            have : ¬ ys = xs := by
              rintro rfl
              exact Hxy.out (by rw [← Hx.out, ← Hy.out])
            rw [HS.out]
            simp [this]
        · go_wp2
          go_ret
          refine ⟨?_, B0.out⟩
          have : ys = xs := (List.ext_getElem? (fun j => by
            by_cases hj : j < k
            · exact HA.out j hj
            · rw [List.getElem?_eq_none (by omega), List.getElem?_eq_none (by have := Hne.out; omega)])).symm
          rw [HS.out, this, HH.out]
          simp
    · have t1 : ((ha : Int) != hb) = false := by simp [hh]
      have t2 : ((xs.length : Int) != ys.length) = true := by simp; omega
      have hR : RES = false := by rw [HS.out]; simp; intro _ e; exact hne (by rw [e])
      clear hh hne HS
      subst hR
      go_enter Try.func70, Try.ntmps70
      go_wp2
      go_ret
      exact ⟨rfl, B0.out⟩
  · have t1 : ((ha : Int) != hb) = true := by simp [hh]
    have hR : RES = false := by rw [HS.out]; simp; intro e; exact absurd e.symm hh
    clear hh HS
    subst hR
    go_enter Try.func70, Try.ntmps70
    go_wp2
    go_ret
    exact ⟨rfl, B0.out⟩
end Go.Proofs.Ytadabkkkalgehaa.H
namespace Go.Proofs.Ytadabkkkalgehaa.H
set_option linter.unusedVariables false
set_option linter.unusedSimpArgs false
def BLe (m m' : List Bool) : Prop := m'.length = m.length ∧ ∀ i : Nat, m[i]? = some true → m'[i]? = some true
theorem BLe.refl (m : List Bool) : BLe m m := ⟨rfl, fun _ h => h⟩
theorem BLe.trans {a b c : List Bool} (h : BLe a b) (k : BLe b c) : BLe a c := ⟨k.1.trans h.1, fun i hi => k.2 i (h.2 i hi)⟩
theorem BLe.antisymm {a b : List Bool} (h : BLe a b) (k : BLe b a) : a = b := by
  refine List.ext_getElem? fun i => ?_
  by_cases hi : i < a.length
  · have hj : i < b.length := by rw [h.1]; exact hi
    rw [List.getElem?_eq_getElem hi, List.getElem?_eq_getElem hj]
    cases ha : a[i] with
    | true =>
      have := h.2 i (by rw [List.getElem?_eq_getElem hi, ha])
      rw [List.getElem?_eq_getElem hj] at this
      exact this.symm
    | false =>
      cases hb : b[i] with
      | false => rfl
      | true =>
        have := k.2 i (by rw [List.getElem?_eq_getElem hj, hb])
        rw [List.getElem?_eq_getElem hi, ha] at this
        cases this
  · rw [List.getElem?_eq_none (by omega), List.getElem?_eq_none (by rw [h.1]; omega)]
theorem BLe.count : ∀ {m m' : List Bool}, BLe m m' → m'.count false ≤ m.count false ∧ (m'.count false = m.count false → m' = m) := by
  intro m
  induction m with
  | nil =>
    intro m' h
    have : m' = [] := List.eq_nil_of_length_eq_zero (by simpa using h.1)
    subst this
    exact ⟨Nat.le_refl _, fun _ => rfl⟩
  | cons x xs ih =>
    intro m' h
    cases m' with
    | nil => have := h.1; simp at this
    | cons y ys =>
      have ht : BLe xs ys := ⟨by have := h.1; simpa using this, fun i hi => by have := h.2 (i + 1) (by simpa using hi); simpa using this⟩
      obtain ⟨h1, h2⟩ := ih ht
      have hx := h.2 0
      cases x with
      | true =>
        have : y = true := by simpa using hx
        subst this
        refine ⟨by simpa using h1, fun e => ?_⟩
        rw [h2 (by simpa using e)]
      | false =>
        cases y with
        | false =>
          refine ⟨by simpa using h1, fun e => ?_⟩
          rw [h2 (by simpa using e)]
        | true =>
          refine ⟨by simp; omega, fun e => ?_⟩
          simp at e
          omega
theorem BLe.set {m : List Bool} {j : Nat} {b : Bool} (h : m[j]? = some true → b = true) : BLe m (m.set j b) := by
  refine ⟨by simp, fun i hi => ?_⟩
  rw [List.getElem?_set]
  by_cases e : j = i
  · subst e
    rw [if_pos rfl]
    have hlt : j < m.length := (List.getElem?_eq_some_iff.1 hi).1
    rw [if_pos hlt, h hi]
  · rw [if_neg e]; exact hi
theorem gb_some {m : List Bool} {s : Int} (h : s.toNat < m.length) : (gb m s = true ↔ m[s.toNat]? = some true) := by
  unfold gb
  rw [List.getD_eq_getElem?_getD, List.getElem?_eq_getElem h]
  simp
def its (R : List Bool → List Bool) : Nat → List Bool → List Bool
  | 0, m => m
  | k + 1, m => its R k (R m)
theorem its_still {R : List Bool → List Bool} {m : List Bool} (h : R m = m) : ∀ k, its R k m = m := by
  intro k
  induction k with
  | zero => rfl
  | succ k ih => unfold its; rw [h, ih]
theorem its_fix {R : List Bool → List Bool} {n : Nat} (hR : ∀ m : List Bool, m.length = n → BLe m (R m)) : ∀ (k : Nat) (m : List Bool), m.length = n → m.count false ≤ k → R (its R k m) = its R k m := by
  intro k
  induction k with
  | zero =>
    intro m hm hk
    have h := hR m hm
    exact (h.count).2 (by have := h.count.1; omega)
  | succ k ih =>
    intro m hm hk
    have h := hR m hm
    by_cases e : R m = m
    · have h1 : its R (k + 1) m = m := its_still e (k + 1)
      rw [h1, e]
    · refine ih (R m) (by rw [h.1]; exact hm) ?_
      have h1 := h.count.1
      have h2 : (R m).count false ≠ m.count false := fun e' => e (h.count.2 e')
      omega
theorem its_ind {R : List Bool → List Bool} {P : List Bool → Prop} (hR : ∀ m, P m → P (R m)) : ∀ k m, P m → P (its R k m) := by
  intro k
  induction k with
  | zero => intro m h; exact h
  | succ k ih => intro m h; exact ih _ (hR m h)
theorem foldl_le {α : Type} {f : List Bool → α → List Bool} {n : Nat} (l : List α) (hf : ∀ u x, x ∈ l → u.length = n → BLe u (f u x)) : ∀ m : List Bool, m.length = n → BLe m (l.foldl f m) := by
  induction l with
  | nil => intro m _; exact BLe.refl m
  | cons x l ih =>
    intro m hm
    have h := hf m x (by simp) hm
    exact h.trans (ih (fun u y hy hu => hf u y (by simp [hy]) hu) _ (by rw [h.1]; exact hm))
theorem foldl_fix {α : Type} {f : List Bool → α → List Bool} {n : Nat} (l : List α) (hf : ∀ u x, x ∈ l → u.length = n → BLe u (f u x)) : ∀ m : List Bool, m.length = n → l.foldl f m = m → ∀ x ∈ l, f m x = m := by
  induction l with
  | nil => intro m _ _ x hx; cases hx
  | cons x l ih =>
    intro m hm e y hy
    have h := hf m x (by simp) hm
    have h2 := foldl_le l (fun u y hy hu => hf u y (by simp [hy]) hu) (f m x) (by rw [h.1]; exact hm)
    rw [List.foldl_cons] at e
    have e1 : f m x = m := by
      rw [e] at h2
      exact h2.antisymm h
    rcases List.mem_cons.1 hy with rfl | hy
    · exact e1
    · rw [e1] at e
      exact ih (fun u y hy hu => hf u y (by simp [hy]) hu) m hm e y hy
theorem foldl_ind {α β : Type} {f : β → α → β} {P : β → Prop} (l : List α) (hf : ∀ u x, x ∈ l → P u → P (f u x)) : ∀ m, P m → P (l.foldl f m) := by
  induction l with
  | nil => intro m h; exact h
  | cons x l ih => intro m h; exact ih (fun u y hy hu => hf u y (by simp [hy]) hu) _ (hf m x (by simp) h)
def cIn (h : Int) (m : List Bool) (y : Int) : List Bool := m.set y.toNat (gb m y || gb m h)
def cStep (m : List Bool) (p : Pr) : List Bool := p.body.foldl (cIn p.head) m
def cRound (ps : List Pr) (m : List Bool) : List Bool := ps.foldl cStep m
def comeL (g : Gr) : List Bool := its (cRound g.ps) g.S.toNat ((List.replicate g.S.toNat false).set g.st.toNat true)
theorem cIn_le {h : Int} {m : List Bool} {y : Int} : BLe m (cIn h m y) := BLe.set fun e => by
  have hlt : y.toNat < m.length := (List.getElem?_eq_some_iff.1 e).1
  rw [(gb_some hlt).2 e]
  rfl
theorem cStep_le {n : Nat} {m : List Bool} {p : Pr} (hm : m.length = n) : BLe m (cStep m p) := foldl_le (n := n) p.body (fun u y _ _ => cIn_le) m hm
theorem cRound_le {n : Nat} {ps : List Pr} (m : List Bool) (hm : m.length = n) : BLe m (cRound ps m) := foldl_le (n := n) ps (fun u p _ hu => cStep_le hu) m hm
theorem set_fix {m : List Bool} {y : Int} {b : Bool} (h0 : 0 ≤ y) (hl : y.toNat < m.length) (h : m.set y.toNat b = m) : gb m y = b := by
  have := gb_set (b := b) h0 hl y h0
  rw [h, if_pos rfl] at this
  exact this
theorem comeL_len (g : Gr) : (comeL g).length = g.S.toNat := its_ind (P := fun m => m.length = g.S.toNat) (fun m hm => by rw [(cRound_le (ps := g.ps) m hm).1]; exact hm) _ _ (by simp)
theorem come_spec {g : Gr} (ok : GrOk g) (s : Int) (h0 : 0 ≤ s) (h1 : s < g.S) : gb (comeL g) s = true ↔ Cm g.st g.ps s := by
  have hT := ok.t0
  have hS := ok.s0
  have hst := ok.st0
  have hst1 := ok.st1
  have hpin : ∀ p ∈ g.ps, PrIn g.S.toNat p := fun p hp => ⟨by have := ok.pr p hp; omega, by have := ok.pr p hp; omega, fun y hy => by have := (ok.pr p hp).2.2 y hy; omega⟩
  constructor
  · have inv : (comeL g).length = g.S.toNat ∧ ∀ s, 0 ≤ s → s.toNat < g.S.toNat → gb (comeL g) s = true → Cm g.st g.ps s := by
      refine its_ind (P := fun m => m.length = g.S.toNat ∧ ∀ s, 0 ≤ s → s.toNat < g.S.toNat → gb m s = true → Cm g.st g.ps s) (fun m hm => ?_) _ _ ?_
      · refine foldl_ind (P := fun m => m.length = g.S.toNat ∧ ∀ s, 0 ≤ s → s.toNat < g.S.toNat → gb m s = true → Cm g.st g.ps s) g.ps (fun u p hp hu => ?_) m hm
        refine foldl_ind (P := fun m => m.length = g.S.toNat ∧ ∀ s, 0 ≤ s → s.toNat < g.S.toNat → gb m s = true → Cm g.st g.ps s) p.body (fun v y hy hv => ?_) u hu
        have hyn := (hpin p hp).2.2 y hy
        refine ⟨by simp [cIn, hv.1], fun t ht0 htn hg => ?_⟩
        unfold cIn at hg
        rw [gb_set hyn.1 (by rw [hv.1]; exact hyn.2) t ht0] at hg
        split at hg
        · rename_i e
          subst e
          rcases Bool.or_eq_true_iff.1 hg with h | h
          · exact hv.2 t ht0 htn h
          · exact .step hp (hv.2 _ (hpin p hp).1 (hpin p hp).2.1 h) hy
        · exact hv.2 t ht0 htn hg
      · refine ⟨by simp, fun t ht0 htn hg => ?_⟩
        rw [gb_set (by omega) (by simp; omega) t ht0] at hg
        split at hg
        · rename_i e; subst e; exact .start
        · unfold gb at hg
          rw [List.getD_eq_getElem?_getD, List.getElem?_eq_getElem (by simpa using htn)] at hg
          simp at hg
    exact inv.2 s h0 (by omega)
  · have hlen := comeL_len g
    have fix : cRound g.ps (comeL g) = comeL g := its_fix (n := g.S.toNat) (fun m hm => cRound_le m hm) g.S.toNat _ (by simp) (by have := List.count_le_length (a := false) (l := (List.replicate g.S.toNat false).set g.st.toNat true); simpa using this)
    have hstart : gb (comeL g) g.st = true := by
      have hmono : BLe ((List.replicate g.S.toNat false).set g.st.toNat true) (comeL g) := its_ind (P := fun m => m.length = g.S.toNat ∧ BLe ((List.replicate g.S.toNat false).set g.st.toNat true) m) (fun m hm => by
        have := cRound_le (ps := g.ps) m hm.1
        exact ⟨by rw [this.1]; exact hm.1, hm.2.trans this⟩) _ _ ⟨by simp, BLe.refl _⟩ |>.2
      refine (gb_some (by rw [hlen]; omega)).2 (hmono.2 _ ?_)
      rw [List.getElem?_set_self (by rw [List.length_replicate]; omega)]
    have hcl : ∀ p ∈ g.ps, gb (comeL g) p.head = true → ∀ y ∈ p.body, gb (comeL g) y = true := fun p hp hh y hy => by
      have e1 := foldl_fix (n := g.S.toNat) g.ps (fun u p _ hu => cStep_le hu) (comeL g) hlen fix p hp
      have e2 := foldl_fix (n := g.S.toNat) p.body (fun u y _ _ => cIn_le (h := p.head)) (comeL g) hlen e1 y hy
      have hyn := (hpin p hp).2.2 y hy
      have := set_fix hyn.1 (by rw [hlen]; exact hyn.2) e2
      rw [hh, Bool.or_true] at this
      exact this
    intro h
    induction h with
    | start => exact hstart
    | step hp h hy ih => exact hcl _ hp (ih (by have := (ok.pr _ hp).1; omega) (ok.pr _ hp).2.1) _ hy
def gStep (m : List Bool) (p : Pr) : List Bool := m.set p.head.toNat (gb m p.head || p.body.all (gb m))
def gRound (ps : List Pr) (m : List Bool) : List Bool := ps.foldl gStep m
def goodL (g : Gr) : List Bool := its (gRound g.ps) g.S.toNat (List.replicate g.T.toNat true ++ List.replicate (g.S.toNat - g.T.toNat) false)
theorem gStep_le {m : List Bool} {p : Pr} : BLe m (gStep m p) := BLe.set fun e => by
  have hlt : p.head.toNat < m.length := (List.getElem?_eq_some_iff.1 e).1
  rw [(gb_some hlt).2 e]
  rfl
theorem gRound_le {n : Nat} {ps : List Pr} (m : List Bool) (hm : m.length = n) : BLe m (gRound ps m) := foldl_le (n := n) ps (fun u p _ hu => gStep_le) m hm
theorem good0_len {g : Gr} (ok : GrOk g) : (List.replicate g.T.toNat true ++ List.replicate (g.S.toNat - g.T.toNat) false).length = g.S.toNat := by
  have := ok.t0; have := ok.s0
  simp; omega
theorem goodL_len {g : Gr} (ok : GrOk g) : (goodL g).length = g.S.toNat := its_ind (P := fun m => m.length = g.S.toNat) (fun m hm => by rw [(gRound_le (ps := g.ps) m hm).1]; exact hm) _ _ (good0_len ok)
theorem good_spec {g : Gr} (ok : GrOk g) (s : Int) (h0 : 0 ≤ s) (h1 : s < g.S) : gb (goodL g) s = true ↔ Gd g.T g.ps s := by
  have hT := ok.t0
  have hS := ok.s0
  have hpin : ∀ p ∈ g.ps, PrIn g.S.toNat p := fun p hp => ⟨by have := ok.pr p hp; omega, by have := ok.pr p hp; omega, fun y hy => by have := (ok.pr p hp).2.2 y hy; omega⟩
  constructor
  · have inv : (goodL g).length = g.S.toNat ∧ ∀ s, 0 ≤ s → s.toNat < g.S.toNat → gb (goodL g) s = true → Gd g.T g.ps s := by
      refine its_ind (P := fun m => m.length = g.S.toNat ∧ ∀ s, 0 ≤ s → s.toNat < g.S.toNat → gb m s = true → Gd g.T g.ps s) (fun m hm => ?_) _ _ ?_
      · refine foldl_ind (P := fun m => m.length = g.S.toNat ∧ ∀ s, 0 ≤ s → s.toNat < g.S.toNat → gb m s = true → Gd g.T g.ps s) g.ps (fun u p hp hu => ?_) m hm
        have hpn := hpin p hp
        refine ⟨by simp [gStep, hu.1], fun t ht0 htn hg => ?_⟩
        unfold gStep at hg
        rw [gb_set hpn.1 (by rw [hu.1]; exact hpn.2.1) t ht0] at hg
        split at hg
        · rename_i e
          subst e
          rcases Bool.or_eq_true_iff.1 hg with h | h
          · exact hu.2 _ ht0 htn h
          · exact .head hp fun y hy => hu.2 y (hpn.2.2 y hy).1 (hpn.2.2 y hy).2 (List.all_eq_true.1 h y hy)
        · exact hu.2 t ht0 htn hg
      · refine ⟨good0_len ok, fun t ht0 htn hg => ?_⟩
        rw [gb_rep _ _ _ _ _ (by omega)] at hg
        split at hg
        · exact .term ht0 (by omega)
        · cases hg
    exact inv.2 s h0 (by omega)
  · have hlen := goodL_len ok
    have hmono : BLe (List.replicate g.T.toNat true ++ List.replicate (g.S.toNat - g.T.toNat) false) (goodL g) := (its_ind (P := fun m => m.length = g.S.toNat ∧ BLe (List.replicate g.T.toNat true ++ List.replicate (g.S.toNat - g.T.toNat) false) m) (fun m hm => by
        have := gRound_le (ps := g.ps) m hm.1
        exact ⟨by rw [this.1]; exact hm.1, hm.2.trans this⟩) _ _ ⟨good0_len ok, BLe.refl _⟩).2
    have fix : gRound g.ps (goodL g) = goodL g := its_fix (n := g.S.toNat) (fun m hm => gRound_le m hm) g.S.toNat _ (good0_len ok) (by have := List.count_le_length (a := false) (l := (List.replicate g.T.toNat true ++ List.replicate (g.S.toNat - g.T.toNat) false)); rwa [good0_len ok] at this)
    intro h
    clear h0 h1
    induction h with
    | @term s h0 h =>
      refine (gb_some (by rw [hlen]; omega)).2 (hmono.2 _ ?_)
      have := gb_rep g.T.toNat (g.S.toNat - g.T.toNat) true false s (by omega)
      rw [if_pos (by omega)] at this
      exact (gb_some (by rw [good0_len ok]; omega)).1 this
    | @head p hp h ih =>
      have e1 := foldl_fix (n := g.S.toNat) g.ps (fun u p _ hu => gStep_le) (goodL g) hlen fix p hp
      have hpn := hpin p hp
      have := set_fix hpn.1 (by rw [hlen]; exact hpn.2.1) e1
      rw [List.all_eq_true.2 ih, Bool.or_true] at this
      exact this
inductive Rch (ps : List Pr) : Int → Int → Prop where
  | one {p : Pr} (hp : p ∈ ps) (hl : p.body.length = 1) : Rch ps p.head (p.body.getD 0 0)
  | more {s : Int} {p : Pr} (h : Rch ps s p.head) (hp : p ∈ ps) (hl : p.body.length = 1) : Rch ps s (p.body.getD 0 0)
def rStep (s : Int) (m : List Bool) (p : Pr) : List Bool := if p.body.length = 1 ∧ (p.head = s ∨ gb m p.head = true) then m.set (p.body.getD 0 0).toNat true else m
def rRound (ps : List Pr) (s : Int) (m : List Bool) : List Bool := ps.foldl (rStep s) m
def rchL (g : Gr) (s : Int) : List Bool := its (rRound g.ps s) (g.S.toNat + 1) (List.replicate g.S.toNat false)
theorem rStep_le {s : Int} {m : List Bool} {p : Pr} : BLe m (rStep s m p) := by
  unfold rStep
  split
  · exact BLe.set fun _ => rfl
  · exact BLe.refl m
theorem rRound_le {n : Nat} {ps : List Pr} {s : Int} (m : List Bool) (hm : m.length = n) : BLe m (rRound ps s m) := foldl_le (n := n) ps (fun u p _ hu => rStep_le) m hm
theorem rchL_len (g : Gr) (s : Int) : (rchL g s).length = g.S.toNat := its_ind (P := fun m => m.length = g.S.toNat) (fun m hm => by rw [(rRound_le (ps := g.ps) (s := s) m hm).1]; exact hm) _ _ (by simp)
theorem one_mem {p : Pr} (hl : p.body.length = 1) : p.body.getD 0 0 ∈ p.body := by
  rw [List.getD_eq_getElem?_getD, List.getElem?_eq_getElem (by omega)]
  exact List.getElem_mem _
theorem rch_spec {g : Gr} (ok : GrOk g) (s t : Int) (h0 : 0 ≤ t) (h1 : t < g.S) : gb (rchL g s) t = true ↔ Rch g.ps s t := by
  have hT := ok.t0
  have hS := ok.s0
  have hpin : ∀ p ∈ g.ps, PrIn g.S.toNat p := fun p hp => ⟨by have := ok.pr p hp; omega, by have := ok.pr p hp; omega, fun y hy => by have := (ok.pr p hp).2.2 y hy; omega⟩
  constructor
  · have inv : (rchL g s).length = g.S.toNat ∧ ∀ t, 0 ≤ t → t.toNat < g.S.toNat → gb (rchL g s) t = true → Rch g.ps s t := by
      refine its_ind (P := fun m => m.length = g.S.toNat ∧ ∀ t, 0 ≤ t → t.toNat < g.S.toNat → gb m t = true → Rch g.ps s t) (fun m hm => ?_) _ _ ?_
      · refine foldl_ind (P := fun m => m.length = g.S.toNat ∧ ∀ t, 0 ≤ t → t.toNat < g.S.toNat → gb m t = true → Rch g.ps s t) g.ps (fun u p hp hu => ?_) m hm
        have hpn := hpin p hp
        unfold rStep
        split
        · rename_i hc
          have hyn := hpn.2.2 _ (one_mem hc.1)
          refine ⟨by simp [hu.1], fun t ht0 htn hg => ?_⟩
          rw [gb_set hyn.1 (by rw [hu.1]; exact hyn.2) t ht0] at hg
          split at hg
          · rename_i e
            subst e
            rcases hc.2 with e | e
            · rw [← e]; exact .one hp hc.1
            · exact .more (hu.2 _ hpn.1 hpn.2.1 e) hp hc.1
          · exact hu.2 t ht0 htn hg
        · exact hu
      · refine ⟨by simp, fun t ht0 htn hg => ?_⟩
        unfold gb at hg
        rw [List.getD_eq_getElem?_getD, List.getElem?_eq_getElem (by simpa using htn)] at hg
        simp at hg
    exact inv.2 t h0 (by omega)
  · have hlen := rchL_len g s
    have fix : rRound g.ps s (rchL g s) = rchL g s := its_fix (n := g.S.toNat) (fun m hm => rRound_le m hm) (g.S.toNat + 1) _ (by simp) (by have := List.count_le_length (a := false) (l := List.replicate g.S.toNat false); simp at this ⊢)
    have hcl : ∀ p ∈ g.ps, p.body.length = 1 → (p.head = s ∨ gb (rchL g s) p.head = true) → gb (rchL g s) (p.body.getD 0 0) = true := fun p hp hl hh => by
      have e1 := foldl_fix (n := g.S.toNat) g.ps (fun u p _ hu => rStep_le) (rchL g s) hlen fix p hp
      unfold rStep at e1
      rw [if_pos ⟨hl, hh⟩] at e1
      have hyn := (hpin p hp).2.2 _ (one_mem hl)
      exact set_fix hyn.1 (by rw [hlen]; exact hyn.2) e1
    have key : ∀ {x y : Int}, Rch g.ps x y → x = s → gb (rchL g s) y = true := by
      intro x y h
      induction h with
      | one hp hl => exact fun e => hcl _ hp hl (.inl e)
      | more h hp hl ih => exact fun e => hcl _ hp hl (.inr (ih e))
    exact fun h => key h rfl
theorem Rch.trans {ps : List Pr} {a b c : Int} (h : Rch ps a b) (k : Rch ps b c) : Rch ps a c := by
  induction k with
  | one hp hl => exact .more h hp hl
  | more _ hp hl ih => exact .more (ih h) hp hl
theorem cyc_rch {ps : List Pr} : ∀ (n : Nat) (X : Int → Prop), (∃ s, X s) → (∀ s, X s → 0 ≤ s ∧ s < n) → Cyc ps X → ∃ s, X s ∧ Rch ps s s := by
  intro n
  induction n with
  | zero =>
    rintro X ⟨s, hs⟩ hb _
    have := hb s hs
    omega
  | succ n ih =>
    intro X hX hb hC
    by_cases hn : X (n : Int)
    · by_cases hr : Rch ps (n : Int) (n : Int)
      · exact ⟨_, hn, hr⟩
      · obtain ⟨p, hp, e1, e2, e3⟩ := hC _ hn
        have r0 : Rch ps (n : Int) (p.body.getD 0 0) := by rw [← e1]; exact .one hp e2
        obtain ⟨s, h1, h2⟩ := ih (fun x => X x ∧ Rch ps (n : Int) x) ⟨_, e3, r0⟩ (fun x hx => by
            have h := hb x hx.1
            have : x ≠ n := fun e => hr (by have := hx.2; rw [e] at this; exact this)
            omega) (fun x hx => by
          obtain ⟨q, hq, f1, f2, f3⟩ := hC x hx.1
          exact ⟨q, hq, f1, f2, f3, .more (by rw [f1]; exact hx.2) hq f2⟩)
        exact ⟨s, h1.1, h2⟩
    · exact ih X hX (fun x hx => by
        have h := hb x hx
        have : x ≠ n := fun e => hn (e ▸ hx)
        omega) hC
theorem round_rch {g : Gr} (ok : GrOk g) : roundB g = true ↔ ∃ s, g.T ≤ s ∧ s < g.S ∧ Rch g.ps s s := by
  have hT := ok.t0
  have hS := ok.s0
  rw [round_spec ok]
  constructor
  · rintro ⟨X, hX, hb, hC⟩
    obtain ⟨s, h1, h2⟩ := cyc_rch g.S.toNat X hX (fun s hs => by have := hb s hs; omega) hC
    exact ⟨s, (hb s h1).1, (hb s h1).2, h2⟩
  · rintro ⟨s, h1, h2, h3⟩
    refine ⟨fun t => g.T ≤ t ∧ t < g.S ∧ Rch g.ps t s, ⟨s, h1, h2, h3⟩, fun t ht => ⟨ht.1, ht.2.1⟩, fun t ht => ?_⟩
    have key : ∀ {a b : Int}, Rch g.ps a b → ∀ z, (b = z ∨ Rch g.ps b z) → g.T ≤ z → ∃ p ∈ g.ps, p.head = a ∧ p.body.length = 1 ∧ (p.body.getD 0 0 = z ∨ Rch g.ps (p.body.getD 0 0) z) := by
      intro a b h
      induction h with
      | one hp hl => exact fun z hz _ => ⟨_, hp, rfl, hl, hz⟩
      | more h hp hl ih =>
        intro z hz hz0
        refine ih z (.inr ?_) hz0
        rcases hz with rfl | hz
        · exact .one hp hl
        · exact (Rch.one hp hl).trans hz
    obtain ⟨p, hp, e1, e2, e3⟩ := key ht.2.2 s (.inl rfl) h1
    refine ⟨p, hp, e1, e2, ?_⟩
    have hy := (ok.pr p hp).2.2 _ (one_mem e2)
    have hys : Rch g.ps (p.body.getD 0 0) s := by
      rcases e3 with e | e
      · rw [e]; exact h3
      · exact e
    refine ⟨?_, hy.2, hys⟩
    have hd : ∀ {a b : Int}, Rch g.ps a b → ∃ q ∈ g.ps, q.head = a := by
      intro a b h
      induction h with
      | one hp _ => exact ⟨_, hp, rfl⟩
      | more _ _ _ ih => exact ih
    obtain ⟨q, hq, e⟩ := hd hys
    rw [← e]
    exact (ok.pr q hq).1
theorem used_ref {g : Gr} (ok : GrOk g) : usedB g = true ↔ ∀ s, g.T ≤ s → s < g.S → gb (comeL g) s = true ∧ gb (goodL g) s = true := by
  have hT := ok.t0
  rw [used_spec ok]
  constructor
  · rintro ⟨h1, h2⟩ s hs0 hs1
    exact ⟨(come_spec ok s (by omega) hs1).2 (h1 s hs0 hs1), (good_spec ok s (by omega) hs1).2 (h2 s (by omega) hs1)⟩
  · intro h
    refine ⟨fun s hs0 hs1 => (come_spec ok s (by omega) hs1).1 (h s hs0 hs1).1, fun s hs0 hs1 => ?_⟩
    by_cases hs : s < g.T
    · exact .term hs0 hs
    · exact (good_spec ok s hs0 hs1).1 (h s (by omega) hs1).2
theorem round_ref {g : Gr} (ok : GrOk g) : roundB g = true ↔ ∃ s, g.T ≤ s ∧ s < g.S ∧ gb (rchL g s) s = true := by
  have hT := ok.t0
  rw [round_rch ok]
  constructor
  · rintro ⟨s, h1, h2, h3⟩
    exact ⟨s, h1, h2, (rch_spec ok s s (by omega) h2).2 h3⟩
  · rintro ⟨s, h1, h2, h3⟩
    exact ⟨s, h1, h2, (rch_spec ok s s (by omega) h2).1 h3⟩
end Go.Proofs.Ytadabkkkalgehaa.H
namespace Go.Proofs.Ytadabkkkalgehaa.H
open Go.RowKit
set_option linter.unusedVariables false
set_option linter.unusedSimpArgs false
structure RfW (w wr : World) (gv : Array Value) (gO n : Nat) (m : List Bool) : Prop where
  bw : Below w.heap.size w wr
  bg : Blk wr w.heap.size 24 gv
  bo : Blk wr gO 4 (bools m)
  go : w.heap.size < gO
  lo : m.length = n
theorem RfW.set {w wr : World} {gv : Array Value} {gO n : Nat} {m : List Bool} (h : RfW w wr gv gO n m) (i : Nat) (b : Bool) : RfW w (wr.setCell ⟨gO, i, none⟩ (.bool b)) gv gO n (m.set i b) := by
  refine ⟨h.bw.setCell (by show w.heap.size ≤ gO; have := h.go; omega) _, h.bg.far (by show _ ≠ gO; have := h.go; omega) _, ?_, h.go, by simp [h.lo]⟩
  have := h.bo.set_ i (.bool b)
  rwa [bools_set] at this
theorem RfW.drew {w wr : World} {gv : Array Value} {gO n : Nat} {m : List Bool} (h : RfW w wr gv gO n m) : RfW w wr.drew gv gO n m := ⟨below_drew1 h.bw, h.bg.drew, h.bo.drew, h.go, h.lo⟩
theorem its_step (R : List Bool → List Bool) (k : Nat) (m : List Bool) : its R (k + 1) m = R (its R k m) := by
  induction k generalizing m with
  | zero => rfl
  | succ k ih => show its R (k + 1) (R m) = R (its R k (R m)); exact ih _
theorem rfw_start {w : World} {gv : Array Value} {n : Nat} : RfW w ((w.alloc (.cells gv 24)).alloc (.cells (bools (List.replicate n false)) 4)) gv (w.heap.size + 1) n (List.replicate n false) :=
  ⟨((Below.refl _ _).alloc (Nat.le_refl _) _).alloc (by simp) _, (Blk.new _ _ _).alloc _, Blk.newAt (by simp), by omega, by simp⟩
theorem take_fold {α β : Type} (f : β → α → β) (l : List α) (k : Nat) (hk : k < l.length) (b : β) : (l.take (k + 1)).foldl f b = f ((l.take k).foldl f b) l[k] := by
  rw [List.take_succ_eq_append_getElem hk, List.foldl_append]; rfl
set_option maxRecDepth 100000 in
set_option maxHeartbeats 4000000 in
theorem refCome (g : Gr) (A : Option Addr) (c : Nat) (w : World) (hbl : ∀ p ∈ g.ps, p.body.length ≤ 9223372036854775807) (hr : RdP w w.heap.size A g.ps) (ok : GrOk g) :
    Calls Try.prog 55 #[grV g A c] w fun e w' => ∃ gO, e = .returned (.slice (some ⟨gO, 0, none⟩) g.S.toNat g.S.toNat) ∧ w.heap.size ≤ gO ∧ Blk w' gO 4 (bools (comeL g)) ∧ Below w.heap.size w w' := by
  obtain ⟨T, S, st, ps⟩ := g
  obtain ⟨t0, t1, s0, s1, st0, st1, n0, n1, pr⟩ := ok
  dsimp only at *
  obtain ⟨t, rfl⟩ := Int.eq_ofNat_of_zero_le (show 0 ≤ T by omega)
  obtain ⟨n, rfl⟩ := Int.eq_ofNat_of_zero_le (show 0 ≤ S by omega)
  obtain ⟨a, rfl⟩ := Int.eq_ofNat_of_zero_le (show 0 ≤ st by omega)
  have R0 : Keep (RdP w w.heap.size A ps) := ⟨hr⟩
  have B0 : Keep (∀ p ∈ ps, p.body.length ≤ 9223372036854775807) := ⟨hbl⟩
  have P0 : Keep (∀ p ∈ ps, PrIn n p) := ⟨fun p hp => ⟨by have := pr p hp; omega, by have := pr p hp; omega, fun s hs => by have := (pr p hp).2.2 s hs; omega⟩⟩
  clear hr hbl pr
  generalize hG : comeL ⟨t, n, a, ps⟩ = RES
  have HG : Keep (its (cRound ps) n ((List.replicate n false).set a true) = RES) := ⟨hG⟩
  clear hG
  unfold grV
  dsimp only
  rw [Int.toNat_natCast]
  have hmk := @run_make_row' Try.prog 76 4 (.bool false) 1 Try.underlying76 info_bool rfl .i64 .i64 n (by omega) (by omega)
  simp only [madeCells_bools] at hmk
  go_enter Try.func55, Try.ntmps55
  have U0 := Keep.mk (rfw_start (w := w) (gv := #[.int .i64 t, .int .i64 n, .int .i64 a, .slice A ps.length c]) (n := n))
  have cc := U0.out.bo.cell a
  rw [bools_at _ a (by simp; omega)] at cc
  have cf := U0.out.bo.frozen a
  have U1 : Keep (RfW w ((w.alloc (.cells #[.int .i64 t, .int .i64 n, .int .i64 a, .slice A ps.length c] 24)).alloc (.cells ((bools (List.replicate n false)).setIfInBounds a (.bool true)) 4)) #[.int .i64 t, .int .i64 n, .int .i64 a, .slice A ps.length c] (w.heap.size + 1) n ((List.replicate n false).set a true)) := ⟨((Below.refl _ _).alloc (Nat.le_refl _) _).alloc (by simp) _, (Blk.new _ _ _).alloc _, by rw [bools_set]; exact Blk.newAt (by simp), by omega, by simp⟩
  have i1 : (a : Int) < n := by omega
  clear U0
  go_wp2
  clear cc cf hmk
  go_loopg [4] n (fun gg s4 wr => ∃ k : Nat, k ≤ n ∧ n - k ≤ gg ∧ s4 = .int .i64 k ∧ Keep (RfW w wr #[.int .i64 t, .int .i64 n, .int .i64 a, .slice A ps.length c] (w.heap.size + 1) n (its (cRound ps) k ((List.replicate n false).set a true))))
  case atStart => exact ⟨0, Nat.zero_le _, by omega, rfl, U1⟩
  case round =>
    clear U1
    obtain ⟨k, hk, hg, rfl, U⟩ := hrel
    have q1 := U.out.bg.cell 1
    simp at q1
    by_cases hlt : k < n
    · have HS := Keep.mk (its_step (cRound ps) k ((List.replicate n false).set a true))
      generalize its (cRound ps) k ((List.replicate n false).set a true) = m0 at *
      have k1 : (k : Int) < n := by omega
      go_wp2
      clear q1
      go_loopg [5] ps.length (fun gg s5 wr => ∃ i : Nat, i ≤ ps.length ∧ ps.length - i ≤ gg ∧ s5 = .int .i64 i ∧ Keep (RfW w wr #[.int .i64 t, .int .i64 n, .int .i64 a, .slice A ps.length c] (w.heap.size + 1) n ((ps.take i).foldl cStep m0)))
      case atStart => exact ⟨0, Nat.zero_le _, by omega, rfl, U⟩
      case round =>
        clear U
        obtain ⟨i, hi, hgi, rfl, U⟩ := hrel
        have q3 := U.out.bg.cell 3
        simp at q3
        by_cases hlti : i < ps.length
        · obtain ⟨ad, Ab, cb, rfl, hb, c0, c1, c2, hlb, hrb⟩ := R0.out i hlti
          have hbl := B0.out _ (List.getElem_mem hlti)
          have hpi := Keep.mk (P0.out _ (List.getElem_mem hlti))
          have HU2 := Keep.mk (take_fold cStep ps i hlti m0)
          generalize (ps.take i).foldl cStep m0 = m1 at *
          generalize hx : ps[i] = p at *
          clear hx
          obtain ⟨hd, bd, rt⟩ := p
          dsimp only at *
          obtain ⟨d, rfl⟩ := Int.eq_ofNat_of_zero_le hpi.out.1
          have hdn : (d : Int) < n := by have := hpi.out.2.1; simp at this; omega
          have j1 : (0:Int) ≤ i := by omega
          have j2 : (i : Int) < ps.length := by omega
          have C0 := Keep.mk c0
          have C1 := Keep.mk c1
          clear c0 c1 c2
          go_wp2
          clear q3
          go_loopg [6] bd.length (fun gg s6 wr => ∃ j : Nat, j ≤ bd.length ∧ bd.length - j ≤ gg ∧ s6 = .int .i64 j ∧ Keep (RfW w wr #[.int .i64 t, .int .i64 n, .int .i64 a, .slice (some ad) ps.length c] (w.heap.size + 1) n ((bd.take j).foldl (cIn d) m1)))
          case atStart => exact ⟨0, Nat.zero_le _, by omega, rfl, U⟩
          case round =>
            clear U
            obtain ⟨j, hj, hgj, rfl, U⟩ := hrel
            have q3 := U.out.bg.cell 3
            simp at q3
            have c0 := cell_below C0.out U.out.bw (by rw [add_block]; exact hb)
            have c1 := cell_below C1.out U.out.bw (by show (ad.add _).block < _; rw [add_block]; exact hb)
            by_cases hltj : j < bd.length
            · obtain ⟨a2, rfl, hb2, hc2⟩ := hrb.int j hltj
              replace hc2 := cell_below hc2 U.out.bw (by rw [add_block]; exact hb2)
              have hs := hpi.out.2.2 _ (List.getElem_mem hltj)
              have HV2 := Keep.mk (take_fold (cIn d) bd j hltj m1)
              generalize (bd.take j).foldl (cIn d) m1 = m2 at *
              generalize hy : bd[j] = y at *
              clear hy
              obtain ⟨y, rfl⟩ := Int.eq_ofNat_of_zero_le hs.1
              have hyn : (y : Int) < n := by have := hs.2; simp at this; omega
              have e1 : (0:Int) ≤ j := by omega
              have e2 : (j : Int) < bd.length := by omega
              have ca := U.out.bo.cell d
              rw [bools_gb _ d (by rw [U.out.lo]; omega)] at ca
              have cb' := U.out.bo.cell y
              rw [bools_gb _ y (by rw [U.out.lo]; omega)] at cb'
              have cf := U.out.bo.frozen y
              have hci : Keep (cIn d m2 y = m2.set y (gb m2 y || gb m2 d)) := ⟨rfl⟩
              clear hs
              have U3 := fun b => Keep.mk (U.out.set y b)
              clear U
              generalize gb m2 d = v1 at *
              generalize gb m2 y = v2 at *
              cases v2 with
              | true =>
                have UU := U3 true
                clear U3
                go_wp2
                go_region
                go_wp2
                go_roundg (bd.length - (j + 1))
                case measure => omega
                case rel => exact ⟨j + 1, by omega, by omega, by go_num, ⟨by rw [HV2.out, hci.out]; exact UU.out.drew⟩⟩
              | false =>
                have UU := U3 v1
                clear U3
                go_wp2
                go_region
                go_wp2
                go_roundg (bd.length - (j + 1))
                case measure => omega
                case rel => exact ⟨j + 1, by omega, by omega, by go_num, ⟨by rw [HV2.out, hci.out]; exact UU.out.drew⟩⟩
            · have ej : j = bd.length := by omega
              subst ej
              go_wp2
              go_roundg (ps.length - (i + 1))
              case measure => omega
              case rel => exact ⟨i + 1, by omega, by omega, by go_num, ⟨by rw [HU2.out]; have := U.out; rw [List.take_length] at this; exact this⟩⟩
        · have em : i = ps.length := by omega
          subst em
          go_wp2
          go_roundg (n - (k + 1))
          case measure => omega
          case rel => exact ⟨k + 1, by omega, by omega, by go_num, ⟨by rw [HS.out]; have := U.out; rw [List.take_length] at this; exact this⟩⟩
    · have ek : k = n := by omega
      subst ek
      go_wp2
      go_ret
      refine ⟨w.heap.size + 1, rfl, by omega, ?_, U.out.bw⟩
      have := U.out.bo
      rwa [HG.out] at this
end Go.Proofs.Ytadabkkkalgehaa.H
namespace Go.Proofs.Ytadabkkkalgehaa.H
open Go.RowKit
set_option linter.unusedVariables false
set_option linter.unusedSimpArgs false
theorem all_take (f : Int → Bool) (l : List Int) (k : Nat) (hk : k < l.length) : (l.take (k + 1)).all f = ((l.take k).all f && f l[k]) := by
  rw [List.take_succ_eq_append_getElem hk, List.all_append]; simp
set_option maxRecDepth 100000 in
set_option maxHeartbeats 4000000 in
theorem refGood (g : Gr) (A : Option Addr) (c : Nat) (w : World) (hbl : ∀ p ∈ g.ps, p.body.length ≤ 9223372036854775807) (hr : RdP w w.heap.size A g.ps) (ok : GrOk g) :
    Calls Try.prog 56 #[grV g A c] w fun e w' => ∃ gO, e = .returned (.slice (some ⟨gO, 0, none⟩) g.S.toNat g.S.toNat) ∧ w.heap.size ≤ gO ∧ Blk w' gO 4 (bools (goodL g)) ∧ Below w.heap.size w w' := by
  obtain ⟨T, S, st, ps⟩ := g
  obtain ⟨t0, t1, s0, s1, st0, st1, n0, n1, pr⟩ := ok
  dsimp only at *
  obtain ⟨t, rfl⟩ := Int.eq_ofNat_of_zero_le (show 0 ≤ T by omega)
  obtain ⟨n, rfl⟩ := Int.eq_ofNat_of_zero_le (show 0 ≤ S by omega)
  have R0 : Keep (RdP w w.heap.size A ps) := ⟨hr⟩
  have B0 : Keep (∀ p ∈ ps, p.body.length ≤ 9223372036854775807) := ⟨hbl⟩
  have P0 : Keep (∀ p ∈ ps, PrIn n p) := ⟨fun p hp => ⟨by have := pr p hp; omega, by have := pr p hp; omega, fun s hs => by have := (pr p hp).2.2 s hs; omega⟩⟩
  clear hr hbl pr
  generalize hG : goodL ⟨t, n, st, ps⟩ = RES
  have HG : Keep (its (gRound ps) n (List.replicate t true ++ List.replicate (n - t) false) = RES) := ⟨by rw [← hG]; unfold goodL; simp⟩
  clear hG
  unfold grV
  dsimp only
  rw [Int.toNat_natCast]
  have hmk := @run_make_row' Try.prog 76 4 (.bool false) 1 Try.underlying76 info_bool rfl .i64 .i64 n (by omega) (by omega)
  simp only [madeCells_bools] at hmk
  go_enter Try.func56, Try.ntmps56
  have U0 := Keep.mk (rfw_start (w := w) (gv := #[.int .i64 t, .int .i64 n, .int .i64 st, .slice A ps.length c]) (n := n))
  go_wp2
  clear hmk
  go_loopg [4] t (fun gg s4 wr => ∃ k : Nat, k ≤ t ∧ t - k ≤ gg ∧ s4 = .int .i64 k ∧ Keep (RfW w wr #[.int .i64 t, .int .i64 n, .int .i64 st, .slice A ps.length c] (w.heap.size + 1) n (List.replicate k true ++ List.replicate (n - k) false)))
  case atStart => exact ⟨0, Nat.zero_le _, by omega, rfl, U0⟩
  case round =>
  clear U0
  obtain ⟨k, hk, hg, rfl, U⟩ := hrel
  have q0 := U.out.bg.cell 0
  simp at q0
  by_cases hlt : k < t
  · have cc := U.out.bo.cell k
    rw [bools_gb _ k (by rw [U.out.lo]; omega)] at cc
    generalize gb _ _ = v9 at cc
    have cf := U.out.bo.frozen k
    have U2 := Keep.mk (U.out.set k true)
    rw [fill_set k n (by omega)] at U2
    have i0 : (k : Int) < n := by omega
    have i1 : (k : Int) < t := by omega
    clear U
    go_wp2
    go_roundg (t - (k + 1))
    case measure => omega
    case rel => exact ⟨k + 1, by omega, by omega, by go_num, U2⟩
  have ek : k = t := by omega
  subst ek
  clear hg hk hlt
  go_wp2
  clear q0
  go_loopg [5] n (fun gg s5 wr => ∃ h : Nat, h ≤ n ∧ n - h ≤ gg ∧ s5 = .int .i64 h ∧ Keep (RfW w wr #[.int .i64 k, .int .i64 n, .int .i64 st, .slice A ps.length c] (w.heap.size + 1) n (its (gRound ps) h (List.replicate k true ++ List.replicate (n - k) false))))
  case atStart => exact ⟨0, Nat.zero_le _, by omega, rfl, U⟩
  case round =>
    clear U
    obtain ⟨h, hk, hg, rfl, U⟩ := hrel
    have q1 := U.out.bg.cell 1
    simp at q1
    by_cases hlt : h < n
    · have HS := Keep.mk (its_step (gRound ps) h (List.replicate k true ++ List.replicate (n - k) false))
      generalize its (gRound ps) h (List.replicate k true ++ List.replicate (n - k) false) = m0 at *
      have k1 : (h : Int) < n := by omega
      go_wp2
      clear q1
      go_loopg [6] ps.length (fun gg s6 wr => ∃ i : Nat, i ≤ ps.length ∧ ps.length - i ≤ gg ∧ s6 = .int .i64 i ∧ Keep (RfW w wr #[.int .i64 k, .int .i64 n, .int .i64 st, .slice A ps.length c] (w.heap.size + 1) n ((ps.take i).foldl gStep m0)))
      case atStart => exact ⟨0, Nat.zero_le _, by omega, rfl, U⟩
      case round =>
        clear U
        obtain ⟨i, hi, hgi, rfl, U⟩ := hrel
        have q3 := U.out.bg.cell 3
        simp at q3
        by_cases hlti : i < ps.length
        · obtain ⟨ad, Ab, cb, rfl, hb, c0, c1, c2, hlb, hrb⟩ := R0.out i hlti
          have hbl := B0.out _ (List.getElem_mem hlti)
          have hpi := Keep.mk (P0.out _ (List.getElem_mem hlti))
          have HU2 := Keep.mk (take_fold gStep ps i hlti m0)
          generalize (ps.take i).foldl gStep m0 = m1 at *
          generalize hx : ps[i] = p at *
          clear hx
          obtain ⟨hd, bd, rt⟩ := p
          dsimp only at *
          obtain ⟨d, rfl⟩ := Int.eq_ofNat_of_zero_le hpi.out.1
          have hdn : (d : Int) < n := by have := hpi.out.2.1; simp at this; omega
          have j1 : (0:Int) ≤ i := by omega
          have j2 : (i : Int) < ps.length := by omega
          have C0 := Keep.mk c0
          have C1 := Keep.mk c1
          clear c0 c1 c2
          go_wp2
          clear q3
          go_loopg [7, 8] bd.length (fun gg s7 s8 wr => ∃ j : Nat, j ≤ bd.length ∧ bd.length - j ≤ gg ∧ s7 = .bool ((bd.take j).all (gb m1)) ∧ s8 = .int .i64 j ∧ Keep (RfW w wr #[.int .i64 k, .int .i64 n, .int .i64 st, .slice (some ad) ps.length c] (w.heap.size + 1) n m1))
          case atStart => exact ⟨0, Nat.zero_le _, by omega, rfl, rfl, U⟩
          case round =>
            clear U
            obtain ⟨j, hj, hgj, rfl, rfl, U⟩ := hrel
            have q3 := U.out.bg.cell 3
            simp at q3
            have c0 := cell_below C0.out U.out.bw (by rw [add_block]; exact hb)
            have c1 := cell_below C1.out U.out.bw (by show (ad.add _).block < _; rw [add_block]; exact hb)
            by_cases hltj : j < bd.length
            · obtain ⟨a2, rfl, hb2, hc2⟩ := hrb.int j hltj
              replace hc2 := cell_below hc2 U.out.bw (by rw [add_block]; exact hb2)
              have hs := hpi.out.2.2 _ (List.getElem_mem hltj)
              have HV2 := Keep.mk (all_take (gb m1) bd j hltj)
              generalize (bd.take j).all (gb m1) = v0 at *
              generalize hy : bd[j] = y at *
              clear hy
              obtain ⟨y, rfl⟩ := Int.eq_ofNat_of_zero_le hs.1
              have hyn : (y : Int) < n := by have := hs.2; simp at this; omega
              have e1 : (0:Int) ≤ j := by omega
              have e2 : (j : Int) < bd.length := by omega
              have cb' := U.out.bo.cell y
              rw [bools_gb _ y (by rw [U.out.lo]; omega)] at cb'
              clear hs
              generalize gb m1 y = v2 at *
              cases v0 with
              | true =>
                go_wp2
                go_roundg (bd.length - (j + 1))
                case measure => omega
                case rel => exact ⟨j + 1, by omega, by omega, by rw [HV2.out]; rfl, by go_num, by first | exact U | exact ⟨U.out.drew⟩⟩
              | false =>
                go_wp2
                go_roundg (bd.length - (j + 1))
                case measure => omega
                case rel => exact ⟨j + 1, by omega, by omega, by rw [HV2.out]; rfl, by go_num, by first | exact U | exact ⟨U.out.drew⟩⟩
            · have ej : j = bd.length := by omega
              subst ej
              rw [List.take_length]
              have ca := U.out.bo.cell d
              rw [bools_gb _ d (by rw [U.out.lo]; omega)] at ca
              have cf := U.out.bo.frozen d
              have hci : Keep (gStep m1 ⟨d, bd, rt⟩ = m1.set d (gb m1 d || bd.all (gb m1))) := ⟨rfl⟩
              have U3 := fun b => Keep.mk (U.out.set d b)
              generalize gb m1 d = v1 at *
              generalize bd.all (gb m1) = v2 at *
              cases v1 with
              | true =>
                have UU := U3 true
                clear U3
                go_wp2
                go_region
                go_wp2
                go_roundg (ps.length - (i + 1))
                case measure => omega
                case rel => exact ⟨i + 1, by omega, by omega, by go_num, ⟨by rw [HU2.out, hci.out]; exact UU.out.drew⟩⟩
              | false =>
                have UU := U3 v2
                clear U3
                go_wp2
                go_region
                go_wp2
                go_roundg (ps.length - (i + 1))
                case measure => omega
                case rel => exact ⟨i + 1, by omega, by omega, by go_num, ⟨by rw [HU2.out, hci.out]; exact UU.out.drew⟩⟩
        · have em : i = ps.length := by omega
          subst em
          go_wp2
          go_roundg (n - (h + 1))
          case measure => omega
          case rel => exact ⟨h + 1, by omega, by omega, by go_num, ⟨by rw [HS.out]; have := U.out; rw [List.take_length] at this; exact this⟩⟩
    · have ek : h = n := by omega
      subst ek
      go_wp2
      go_ret
      refine ⟨w.heap.size + 1, rfl, by omega, ?_, U.out.bw⟩
      have := U.out.bo
      rwa [HG.out] at this
end Go.Proofs.Ytadabkkkalgehaa.H
namespace Go.Proofs.Ytadabkkkalgehaa.H
open Go.RowKit
set_option linter.unusedVariables false
set_option linter.unusedSimpArgs false
set_option maxRecDepth 100000 in
set_option maxHeartbeats 4000000 in
theorem refRound (g : Gr) (s : Int) (A : Option Addr) (c : Nat) (w : World) (hbl : ∀ p ∈ g.ps, p.body.length ≤ 9223372036854775807) (hr : RdP w w.heap.size A g.ps) (ok : GrOk g) (hs0 : 0 ≤ s) (hs1 : s < g.S) :
    Calls Try.prog 57 #[grV g A c, .int .i64 s] w fun e w' => e = .returned (.bool (gb (rchL g s) s)) ∧ Below w.heap.size w w' := by
  obtain ⟨T, S, st, ps⟩ := g
  obtain ⟨t0, t1, s0, s1, st0, st1, n0, n1, pr⟩ := ok
  dsimp only at *
  obtain ⟨n, rfl⟩ := Int.eq_ofNat_of_zero_le (show 0 ≤ S by omega)
  obtain ⟨x, rfl⟩ := Int.eq_ofNat_of_zero_le hs0
  have R0 : Keep (RdP w w.heap.size A ps) := ⟨hr⟩
  have B0 : Keep (∀ p ∈ ps, p.body.length ≤ 9223372036854775807) := ⟨hbl⟩
  have P0 : Keep (∀ p ∈ ps, PrIn n p) := ⟨fun p hp => ⟨by have := pr p hp; omega, by have := pr p hp; omega, fun s hs => by have := (pr p hp).2.2 s hs; omega⟩⟩
  clear hr hbl pr
  generalize hG : rchL ⟨T, n, st, ps⟩ x = RES
  have HG : Keep (its (rRound ps x) (n + 1) (List.replicate n false) = RES) := ⟨hG⟩
  clear hG
  unfold grV
  dsimp only
  have hmk := @run_make_row' Try.prog 76 4 (.bool false) 1 Try.underlying76 info_bool rfl .i64 .i64 n (by omega) (by omega)
  simp only [madeCells_bools] at hmk
  go_enter Try.func57, Try.ntmps57
  have U0 := Keep.mk (rfw_start (w := w) (gv := #[.int .i64 T, .int .i64 n, .int .i64 st, .slice A ps.length c]) (n := n))
  go_wp2
  clear hmk
  go_loopg [6] (n + 1) (fun gg s6 wr => ∃ h : Nat, h ≤ n + 1 ∧ n + 1 - h ≤ gg ∧ s6 = .int .i64 h ∧ Keep (RfW w wr #[.int .i64 T, .int .i64 n, .int .i64 st, .slice A ps.length c] (w.heap.size + 1) n (its (rRound ps x) h (List.replicate n false))))
  case atStart => exact ⟨0, Nat.zero_le _, by omega, rfl, U0⟩
  case round =>
    clear U0
    obtain ⟨h, hk, hg, rfl, U⟩ := hrel
    have q1 := U.out.bg.cell 1
    simp at q1
    by_cases hlt : h < n + 1
    · have HS := Keep.mk (its_step (rRound ps x) h (List.replicate n false))
      generalize its (rRound ps x) h (List.replicate n false) = m0 at *
      have k1 : (h : Int) ≤ n := by omega
      go_wp2
      clear q1
      go_loopg [7] ps.length (fun gg s7 wr => ∃ i : Nat, i ≤ ps.length ∧ ps.length - i ≤ gg ∧ s7 = .int .i64 i ∧ Keep (RfW w wr #[.int .i64 T, .int .i64 n, .int .i64 st, .slice A ps.length c] (w.heap.size + 1) n ((ps.take i).foldl (rStep x) m0)))
      case atStart => exact ⟨0, Nat.zero_le _, by omega, rfl, U⟩
      case round =>
        clear U
        obtain ⟨i, hi, hgi, rfl, U⟩ := hrel
        have q3 := U.out.bg.cell 3
        simp at q3
        by_cases hlti : i < ps.length
        · obtain ⟨ad, Ab, cb, rfl, hb, c0, c1, c2, hlb, hrb⟩ := R0.out i hlti
          replace c0 := cell_below c0 U.out.bw (by rw [add_block]; exact hb)
          replace c1 := cell_below c1 U.out.bw (by show (ad.add _).block < _; rw [add_block]; exact hb)
          have hbl := B0.out _ (List.getElem_mem hlti)
          have hpi := Keep.mk (P0.out _ (List.getElem_mem hlti))
          have HU2 := Keep.mk (take_fold (rStep x) ps i hlti m0)
          generalize (ps.take i).foldl (rStep x) m0 = m1 at *
          generalize hx : ps[i] = p at *
          clear hx c2
          obtain ⟨hd, bd, rt⟩ := p
          dsimp only at *
          obtain ⟨d, rfl⟩ := Int.eq_ofNat_of_zero_le hpi.out.1
          have hdn : (d : Int) < n := by have := hpi.out.2.1; simp at this; omega
          have j1 : (0:Int) ≤ i := by omega
          have j2 : (i : Int) < ps.length := by omega
          have hci : Keep (rStep x m1 ⟨d, bd, rt⟩ = if bd.length = 1 ∧ ((d : Int) = x ∨ gb m1 d = true) then m1.set (bd.getD 0 0).toNat true else m1) := ⟨rfl⟩
          have ca := U.out.bo.cell d
          rw [bools_gb _ d (by rw [U.out.lo]; omega)] at ca
          by_cases hl : bd.length = 1
          · obtain ⟨a2, rfl, hb2, hc2⟩ := hrb.int 0 (by omega)
            have hs := hpi.out.2.2 _ (List.getElem_mem (show 0 < bd.length by omega))
            replace hc2 := cell_below hc2 U.out.bw (by rw [add_block]; exact hb2)
            have hc3 := hc2
            have eg : Keep (bd.getD 0 0 = bd[0]) := ⟨by rw [List.getD_eq_getElem?_getD, List.getElem?_eq_getElem (by omega)]; rfl⟩
            generalize hy : bd[0] = y at *
            try simp [Addr.add] at hc3
            clear hy
            obtain ⟨y, rfl⟩ := Int.eq_ofNat_of_zero_le hs.1
            have hyn : (y : Int) < n := by have := hs.2; simp at this; omega
            have cb' := U.out.bo.cell y
            rw [bools_gb _ y (by rw [U.out.lo]; omega)] at cb'
            have cf := U.out.bo.frozen y
            generalize gb m1 y = v9 at cb'
            generalize gb m1 d = v1 at *
            rw [hl] at *
            clear hs hl
            by_cases hds : (d : Int) = x
            · have t2 : ((d : Int) == x) = true := by simp [hds]
              have e : Keep (rStep x m1 ⟨d, bd, rt⟩ = m1.set y true) := ⟨by rw [hci.out, if_pos ⟨rfl, .inl hds⟩, eg.out]; rfl⟩
              have UU := Keep.mk (U.out.set y true)
              clear hds
              go_wp2
              go_roundg (ps.length - (i + 1))
              case measure => omega
              case rel => exact ⟨i + 1, by omega, by omega, by go_num, ⟨by rw [HU2.out, e.out]; first | exact UU.out | exact UU.out.drew⟩⟩
            · have t2 : ((d : Int) == x) = false := by simp only [beq_eq_false_iff_ne]; exact hds
              cases v1 with
              | true =>
                have e : Keep (rStep x m1 ⟨d, bd, rt⟩ = m1.set y true) := ⟨by rw [hci.out, if_pos ⟨rfl, .inr rfl⟩, eg.out]; rfl⟩
                have UU := Keep.mk (U.out.set y true)
                clear hds
                go_wp2
                go_roundg (ps.length - (i + 1))
                case measure => omega
                case rel => exact ⟨i + 1, by omega, by omega, by go_num, ⟨by rw [HU2.out, e.out]; first | exact UU.out | exact UU.out.drew⟩⟩
              | false =>
                have e : Keep (rStep x m1 ⟨d, bd, rt⟩ = m1) := ⟨by rw [hci.out, if_neg (by rintro ⟨_, h | h⟩; exact hds h; cases h)]⟩
                clear hds
                go_wp2
                go_roundg (ps.length - (i + 1))
                case measure => omega
                case rel => exact ⟨i + 1, by omega, by omega, by go_num, ⟨by rw [HU2.out, e.out]; first | exact U.out | exact U.out.drew⟩⟩
          · have t1 : ((bd.length : Int) == 1) = false := by simp only [beq_eq_false_iff_ne]; omega
            have e : Keep (rStep x m1 ⟨d, bd, rt⟩ = m1) := ⟨by rw [hci.out, if_neg (fun h => hl h.1)]⟩
            clear hl
            go_wp2
            go_roundg (ps.length - (i + 1))
            case measure => omega
            case rel => exact ⟨i + 1, by omega, by omega, by go_num, ⟨by rw [HU2.out, e.out]; first | exact U.out | exact U.out.drew⟩⟩
        · have em : i = ps.length := by omega
          subst em
          go_wp2
          go_roundg (n + 1 - (h + 1))
          case measure => omega
          case rel => exact ⟨h + 1, by omega, by omega, by go_num, ⟨by rw [HS.out]; have := U.out; rw [List.take_length] at this; exact this⟩⟩
    · have ek : h = n + 1 := by omega
      subst ek
      have hU := U.out
      rw [HG.out] at hU
      have cx := hU.bo.cell x
      rw [bools_gb _ x (by rw [hU.lo]; omega)] at cx
      have k2 : ¬ ((n : Int) + 1 ≤ n) := by omega
      go_wp2
      go_ret
      exact ⟨rfl, U.out.bw⟩
end Go.Proofs.Ytadabkkkalgehaa.H
