-- printed by wip/eprint.py of this session's repo, out of the translation and contracts proved by hand
import Derived.Test.YtofidghilcbegaaPRux0
namespace Go.Proofs.Ytofidghilcbegaa.PRu
open Go.RowKit Go.Proofs.YtofidghilcbegaaW.PrintWords Go.Proofs.YtofidghilcbegaaW.PrintLast Go.Proofs.YtofidghilcbegaaW.PrintMore
attribute [local go_sem] max2_int min2_int max_two min_two max_three min_three max_four min_four   -- for this text's walks alone
set_option linter.unusedVariables false
set_option linter.unusedSimpArgs false

def toPr (x : S38) : H.Pr := ⟨x.f0, x.f1, x.f2⟩
def toGr (a b c : Int) (l : List S38) : H.Gr := ⟨a, b, c, l.map toPr⟩
theorem rdI_of {w : World} {A : Option Addr} {n : Nat} {xs : List Int} (h : (Kd.int .i64).C w A n xs) : H.Rd H.eI 1 w w.heap.size A xs := by
  intro i hi
  obtain ⟨h1, h2, h3⟩ := h
  obtain ⟨ad, e, hc⟩ := h3 (by omega)
  obtain ⟨c, _, hc1, hc2⟩ := hc i _ (List.getElem?_eq_getElem hi)
  have hc1' : c = [.int .i64 xs[i]] := hc1
  subst hc1'
  have h0 : w.cell? (ad.add (i * 1)) = some (.int .i64 xs[i]) := hc2 0 _ rfl
  refine ⟨ad, e, ?_, fun j u hu => ?_⟩
  · have := H.cell_lt h0; rwa [H.add_block] at this
  · have hj : j = 0 := by
      rcases j with _ | j
      · rfl
      · simp [H.eI] at hu
    subst hj
    have hu' : u = .int .i64 xs[i] := by simpa [H.eI] using hu.symm
    subst hu'
    have e0 : ∀ x : Addr, x.add 0 = x := fun x => by simp [Addr.add]
    rw [e0]
    exact h0
theorem rdP_of {w : World} {A : Option Addr} {l : List S38} (h : Kd.C k38 w A l.length l) : H.RdP w w.heap.size A (l.map toPr) := by
  intro i hi
  have hi' : i < l.length := by simpa using hi
  obtain ⟨ad, A1, c1, e, c0, k1, k2, hl, hr⟩ := at_T38 h (i : Int) (by omega) (by omega)
  have hx : rd_T38 l (i : Int) = l[i] := by simp [rd_T38, List.getD_eq_getElem?_getD, hi']
  rw [hx] at c0 k1 k2 hl hr
  simp only [Int.toNat_natCast] at c0 k1 k2
  refine ⟨ad, A1, c1, e, ?_, ?_, ?_, ?_, ?_, ?_⟩
  · have := H.cell_lt c0; rwa [H.add_block] at this
  · simpa [toPr] using c0
  · simpa [toPr] using k1
  · simpa [toPr] using k2
  · simpa [toPr] using hl
  · simpa [toPr] using rdI_of hr
theorem grIn_of {w : World} {A : Option Addr} {c : Nat} {x y z : Int} {l : List S38} (h : Kd.C k38 w A l.length l) (hc : l.length ≤ c) : H.GrIn w (toGr x y z l) A c := by
  refine ⟨by simpa [toGr] using hc, by have := Kd.C_max h; simpa [toGr] using this, fun p hp => ?_, rdP_of h⟩
  obtain ⟨i, hi, rfl⟩ := List.getElem_of_mem hp
  have hi' : i < l.length := by simpa [toGr] using hi
  obtain ⟨ad, A1, c1, e, c0, k1, k2, hl, hr⟩ := at_T38 h (i : Int) (by omega) (by omega)
  have hx : rd_T38 l (i : Int) = l[i] := by simp [rd_T38, List.getD_eq_getElem?_getD, hi']
  rw [hx] at hr
  have := Kd.C_max hr
  simpa [toGr, toPr] using this
theorem grV_of (A : Option Addr) (c : Nat) (x y z : Int) (l : List S38) : H.grV (toGr x y z l) A c = .agg #[.int .i64 x, .int .i64 y, .int .i64 z, .slice A l.length c] := by simp [H.grV, toGr]
def unPr (p : H.Pr) : S38 := ⟨p.head, p.body, p.right⟩
theorem rdI_to {w : World} {B : Nat} {A : Option Addr} {xs : List Int} (h : H.Rd H.eI 1 w B A xs) (hl : xs.length ≤ 9223372036854775807) : (Kd.int .i64).C w A xs.length xs := by
  refine ⟨rfl, hl, fun hn => ?_⟩
  obtain ⟨ad, e, _, _⟩ := h 0 hn
  refine ⟨ad, e, fun j p hj => ?_⟩
  obtain ⟨hj1, rfl⟩ := List.getElem?_eq_some_iff.1 hj
  obtain ⟨ad', e', _, hc⟩ := h j hj1
  rw [e] at e'
  injection e' with e'
  subst e'
  refine ⟨[.int .i64 xs[j]], rfl, rfl, fun i u hu => ?_⟩
  rcases i with _ | i
  · have hu' : u = .int .i64 xs[j] := by simpa using hu.symm
    subst hu'
    have e0 : ∀ x : Addr, x.add 0 = x := fun x => by simp [Addr.add]
    have := hc 0 _ (show (H.eI xs[j])[0]? = some (.int .i64 xs[j]) from rfl)
    rw [e0] at this
    exact this
  · simp at hu
theorem rdP_to {w : World} {B : Nat} {A : Option Addr} {ps : List H.Pr} (h : H.RdP w B A ps) (hl : ps.length ≤ 9223372036854775807) (hb : ∀ p ∈ ps, p.body.length ≤ 9223372036854775807) : Kd.C k38 w A (ps.map unPr).length (ps.map unPr) := by
  refine ⟨rfl, by simpa using hl, fun hn => ?_⟩
  obtain ⟨ad, _, _, e, _⟩ := h 0 (by simpa using hn)
  refine ⟨ad, e, fun j p hj => ?_⟩
  obtain ⟨hj1, rfl⟩ := List.getElem?_eq_some_iff.1 hj
  have hj2 : j < ps.length := by simpa using hj1
  obtain ⟨ad', Ab, cb, e', _, c0, c1, c2, hlb, hr⟩ := h j hj2
  rw [e] at e'
  injection e' with e'
  subst e'
  refine ⟨[.int .i64 ps[j].head, .slice Ab ps[j].body.length cb, .bool ps[j].right], rfl, ?_, fun i u hu => ?_⟩
  · rw [List.getElem_map]
    exact k38_mk w (unPr ps[j]) hlb (rdI_to hr (hb _ (List.getElem_mem hj2)))
  · have after : ∀ k, k ≠ 0 → ad.add (j * 3 + k) = ⟨(ad.add (j * 3)).block, (ad.add (j * 3)).off + k, none⟩ := fun k hk => add_field ad (j * 3) k (Nat.pos_of_ne_zero hk)
    rcases i with _ | _ | _ | i
    · simp at hu; subst hu; exact c0
    · simp at hu; subst hu
      have e1 : ad.add (j * (k38).sz + 1) = _ := after 1 (by decide)
      simp only [Nat.zero_add]
      rw [e1]; exact c1
    · simp at hu; subst hu
      have e1 : ad.add (j * (k38).sz + 2) = _ := after 2 (by decide)
      show w.cell? (ad.add (j * (k38).sz + 2)) = _
      rw [e1]; exact c2
    · simp at hu
theorem toGr_un (g : H.Gr) : toGr g.T g.S g.st (g.ps.map unPr) = g := by
  obtain ⟨T, S, st, ps⟩ := g
  simp only [toGr, List.map_map]
  congr 1
  have : (toPr ∘ unPr) = id := by funext p; cases p; rfl
  rw [this, List.map_id]

/-! ### rootstocklaw13_big: function 12 -/
def rootstocklaw13_big.f (a0_0 : Int) (a0_1 : Int) (a0_2 : Int) (l0_3 : List (S38)) : Option (Bool) := some (H.bigB (toGr a0_0 a0_1 a0_2 l0_3))
theorem rootstocklaw13_big.calls (a0_0 : Int) (a0_1 : Int) (a0_2 : Int) (A0_3 : Option Addr) (c0_3 : Nat) (l0_3 : List (S38)) (r : Bool) (w : World) (hr0_3 : Kd.C k38 w A0_3 l0_3.length l0_3) (hc0_3 : l0_3.length ≤ c0_3) (h : rootstocklaw13_big.f a0_0 a0_1 a0_2 l0_3 = some r) :
    Calls Try.prog 12 #[.agg #[.int .i64 a0_0, .int .i64 a0_1, .int .i64 a0_2, .slice A0_3 l0_3.length c0_3]] w fun e w' => e = .returned (.bool r) ∧ Below w.heap.size w w' := by
  obtain rfl := Option.some.inj h
  rw [← grV_of]
  exact H.big_any _ _ _ w (grIn_of hr0_3 hc0_3)

/-! ### grams_Check: function 13 -/
def grams_Check.f (a0_0 : Int) (a0_1 : Int) (a0_2 : Int) (l0_3 : List (S38)) : Option (Int) := some (H.checkI (toGr a0_0 a0_1 a0_2 l0_3))
theorem grams_Check.calls (a0_0 : Int) (a0_1 : Int) (a0_2 : Int) (A0_3 : Option Addr) (c0_3 : Nat) (l0_3 : List (S38)) (r : Int) (w : World) (hr0_3 : Kd.C k38 w A0_3 l0_3.length l0_3) (hc0_3 : l0_3.length ≤ c0_3) (h : grams_Check.f a0_0 a0_1 a0_2 l0_3 = some r) :
    Calls Try.prog 13 #[.agg #[.int .i64 a0_0, .int .i64 a0_1, .int .i64 a0_2, .slice A0_3 l0_3.length c0_3]] w fun e w' => e = .returned (.int .i64 r) ∧ Below w.heap.size w w' := by
  obtain rfl := Option.some.inj h
  rw [← grV_of]
  exact H.check_any _ _ _ w (grIn_of hr0_3 hc0_3)

/-! ### rootstocklaw13_alive: function 14 -/
def rootstocklaw13_alive.f  : Option (Bool) := some true
theorem rootstocklaw13_alive.calls  (r : Bool) (w : World) (h : rootstocklaw13_alive.f  = some r) :
    Calls Try.prog 14 #[] w fun e w' => e = .returned (.bool r) ∧ Below w.heap.size w w' := by
  obtain rfl := Option.some.inj h
  exact H.alive_any w

/-! ### grams_First: function 18 -/
def grams_First.f (a0_0 : Int) (a0_1 : Int) (a0_2 : Int) (l0_3 : List (S38)) (a1 : Int) : Option (List Int × Int) := some ((H.firstR (toGr a0_0 a0_1 a0_2 l0_3) a1).1, (H.firstR (toGr a0_0 a0_1 a0_2 l0_3) a1).2)
theorem grams_First.calls (a0_0 : Int) (a0_1 : Int) (a0_2 : Int) (A0_3 : Option Addr) (c0_3 : Nat) (l0_3 : List (S38)) (a1 : Int) (r1 : List Int) (r2 : Int) (w : World) (hr0_3 : Kd.C k38 w A0_3 l0_3.length l0_3) (hc0_3 : l0_3.length ≤ c0_3) (h : grams_First.f a0_0 a0_1 a0_2 l0_3 a1 = some (r1, r2)) :
    Calls Try.prog 18 #[.agg #[.int .i64 a0_0, .int .i64 a0_1, .int .i64 a0_2, .slice A0_3 l0_3.length c0_3], .int .i64 a1] w fun e w' => ∃ v0_ : Value, e = .returned (.tuple #[v0_, .int .i64 r2]) ∧ Kd.R (Kd.int .i64) 3 w' w.heap.size (fun _ => True) v0_ r1 ∧ Below w.heap.size w w' := by
  have h' := Option.some.inj h
  simp only [Prod.mk.injEq] at h'
  obtain ⟨rfl, rfl⟩ := h'
  rw [← grV_of]
  exact (H.first_any _ a1 _ _ w (grIn_of hr0_3 hc0_3)).mono fun e w' ⟨v, he, ho, hb⟩ => ⟨v, he, Kd.R_of_own ho (fun _ _ => trivial), hb⟩

/-! ### grams_Follow: function 22 -/
def grams_Follow.f (a0_0 : Int) (a0_1 : Int) (a0_2 : Int) (l0_3 : List (S38)) (a1 : Int) : Option (List Int × Int) := some ((H.followR (toGr a0_0 a0_1 a0_2 l0_3) a1).1, (H.followR (toGr a0_0 a0_1 a0_2 l0_3) a1).2)
theorem grams_Follow.calls (a0_0 : Int) (a0_1 : Int) (a0_2 : Int) (A0_3 : Option Addr) (c0_3 : Nat) (l0_3 : List (S38)) (a1 : Int) (r1 : List Int) (r2 : Int) (w : World) (hr0_3 : Kd.C k38 w A0_3 l0_3.length l0_3) (hc0_3 : l0_3.length ≤ c0_3) (h : grams_Follow.f a0_0 a0_1 a0_2 l0_3 a1 = some (r1, r2)) :
    Calls Try.prog 22 #[.agg #[.int .i64 a0_0, .int .i64 a0_1, .int .i64 a0_2, .slice A0_3 l0_3.length c0_3], .int .i64 a1] w fun e w' => ∃ v0_ : Value, e = .returned (.tuple #[v0_, .int .i64 r2]) ∧ Kd.R (Kd.int .i64) 3 w' w.heap.size (fun _ => True) v0_ r1 ∧ Below w.heap.size w w' := by
  have h' := Option.some.inj h
  simp only [Prod.mk.injEq] at h'
  obtain ⟨rfl, rfl⟩ := h'
  rw [← grV_of]
  exact (H.follow_any _ a1 _ _ w (grIn_of hr0_3 hc0_3)).mono fun e w' ⟨v, he, ho, hb⟩ => ⟨v, he, Kd.R_of_own ho (fun _ _ => trivial), hb⟩

/-! ### rootstocklaw13_within: function 24 -/
def rootstocklaw13_within.f (l0 : List Int) (l1 : List Int) : Option (Bool) := some (H.withinB l0 l1)
theorem rootstocklaw13_within.calls (A0 : Option Addr) (c0 : Nat) (l0 : List Int) (A1 : Option Addr) (c1 : Nat) (l1 : List Int) (r : Bool) (w : World) (hr0 : Kd.C (Kd.int .i64) w A0 l0.length l0) (hc0 : l0.length ≤ c0) (hr1 : Kd.C (Kd.int .i64) w A1 l1.length l1) (hc1 : l1.length ≤ c1) (h : rootstocklaw13_within.f l0 l1 = some r) :
    Calls Try.prog 24 #[.slice A0 l0.length c0, .slice A1 l1.length c1] w fun e w' => e = .returned (.bool r) ∧ Below w.heap.size w w' := by
  obtain rfl := Option.some.inj h
  refine (H.within_any A0 A1 c0 c1 l0 l1 w (Kd.C_max hr0) (Kd.C_max hr1) (rdI_of hr0) (rdI_of hr1)).mono ?_
  rintro e w' ⟨he, n, rfl⟩
  exact ⟨he, H.below_drewN (Below.refl _ _) n⟩

/-! ### grams_Of: function 25 -/
def grams_Of.f (a0_0 : Int) (a0_1 : Int) (a0_2 : Int) (l0_3 : List (S38)) (a1 : Int) : Option (List Int × Int) := some ((H.ofR (toGr a0_0 a0_1 a0_2 l0_3) a1).1, (H.ofR (toGr a0_0 a0_1 a0_2 l0_3) a1).2)
theorem grams_Of.calls (a0_0 : Int) (a0_1 : Int) (a0_2 : Int) (A0_3 : Option Addr) (c0_3 : Nat) (l0_3 : List (S38)) (a1 : Int) (r1 : List Int) (r2 : Int) (w : World) (hr0_3 : Kd.C k38 w A0_3 l0_3.length l0_3) (hc0_3 : l0_3.length ≤ c0_3) (h : grams_Of.f a0_0 a0_1 a0_2 l0_3 a1 = some (r1, r2)) :
    Calls Try.prog 25 #[.agg #[.int .i64 a0_0, .int .i64 a0_1, .int .i64 a0_2, .slice A0_3 l0_3.length c0_3], .int .i64 a1] w fun e w' => ∃ v0_ : Value, e = .returned (.tuple #[v0_, .int .i64 r2]) ∧ Kd.R (Kd.int .i64) 3 w' w.heap.size (fun _ => True) v0_ r1 ∧ Below w.heap.size w w' := by
  have h' := Option.some.inj h
  simp only [Prod.mk.injEq] at h'
  obtain ⟨rfl, rfl⟩ := h'
  rw [← grV_of]
  exact (H.of_any _ a1 _ _ w (grIn_of hr0_3 hc0_3)).mono fun e w' ⟨v, he, ho, hb⟩ => ⟨v, he, Kd.R_of_own ho (fun _ _ => trivial), hb⟩

/-! ### rootstocklaw13_GramsRows: function 11 -/
mutual
def rootstocklaw13_GramsRows.j0 : Nat → List Int → Bool → Int → Int → Int → List (S38) → Option (Bool)
  | 0, _, _, _, _, _, _ => none
  | k + 1, x1, x29, x102000, x102001, x102002, x102003 => if x29 = true then ((rootstocklaw13_alive.f).bind fun t104 => (some t104)) else (rootstocklaw13_GramsRows.l0 k x1 (([x102002] : List Int)) 0 x102000 x102001 x102002 x102003)
def rootstocklaw13_GramsRows.l0 : Nat → List Int → List Int → Int → Int → Int → Int → List (S38) → Option (Bool)
  | 0, _, _, _, _, _, _, _ => none
  | k + 1, x1, x5, x6, x102000, x102001, x102002, x102003 => if (wrap64 (x6 + 1)) < (x1.length : Int) then (if x6 < 80 then (rootstocklaw13_GramsRows.j2 k x1 x5 x6 (decide ((x5.length : Int) ≤ 200)) x102000 x102001 x102002 x102003) else (rootstocklaw13_GramsRows.j2 k x1 x5 x6 false x102000 x102001 x102002 x102003)) else (rootstocklaw13_GramsRows.j2 k x1 x5 x6 false x102000 x102001 x102002 x102003)
def rootstocklaw13_GramsRows.j2 : Nat → List Int → List Int → Int → Bool → Int → Int → Int → List (S38) → Option (Bool)
  | 0, _, _, _, _, _, _, _, _ => none
  | k + 1, x1, x5, x6, x47, x102000, x102001, x102002, x102003 => if x47 = true then (if 0 ≤ x6 then (if x6 < (x1.length : Int) then (if (x5.length : Int) = 0 then (none) else (if (Int.tmod (rd x1 x6) (x5.length : Int)) < 0 then (rootstocklaw13_GramsRows.j3 k x1 x5 x6 (wrap64 ((Int.tmod (rd x1 x6) (x5.length : Int)) + (x5.length : Int))) x102000 x102001 x102002 x102003) else (rootstocklaw13_GramsRows.j3 k x1 x5 x6 (Int.tmod (rd x1 x6) (x5.length : Int)) x102000 x102001 x102002 x102003))) else (none)) else (none)) else ((grams_First.f x102000 x102001 x102002 x102003 x102002).bind fun bt164 => (if 0 < (x5.length : Int) then ((grams_First.f x102000 x102001 x102002 x102003 (rd x5 0)).bind fun bt169 => (if 0 ≤ (wrap64 ((x5.length : Int) - 1)) then (if (wrap64 ((x5.length : Int) - 1)) < (x5.length : Int) then ((grams_Follow.f x102000 x102001 x102002 x102003 (rd x5 (wrap64 ((x5.length : Int) - 1)))).bind fun bt174 => (if bt164.2 = 0 then (if bt169.2 = 0 then (if bt174.2 = 0 then ((rootstocklaw13_within.f bt169.1 bt164.1).bind fun t178 => (if t178 = true then ((rootstocklaw13_within.f (([x102000] : List Int)) bt174.1).bind fun t182 => (rootstocklaw13_GramsRows.j5 k x5 (!t182) x102000 x102001 x102002 x102003)) else (rootstocklaw13_GramsRows.j5 k x5 true x102000 x102001 x102002 x102003))) else (rootstocklaw13_GramsRows.j5 k x5 true x102000 x102001 x102002 x102003)) else (rootstocklaw13_GramsRows.j5 k x5 true x102000 x102001 x102002 x102003)) else (rootstocklaw13_GramsRows.j5 k x5 true x102000 x102001 x102002 x102003))) else (none)) else (none))) else (none)))
def rootstocklaw13_GramsRows.j3 : Nat → List Int → List Int → Int → Int → Int → Int → Int → List (S38) → Option (Bool)
  | 0, _, _, _, _, _, _, _, _ => none
  | k + 1, x1, x5, x6, x7, x102000, x102001, x102002, x102003 => if 0 ≤ x7 then (if x7 < (x5.length : Int) then ((grams_Of.f x102000 x102001 x102002 x102003 (rd x5 x7)).bind fun bt110 => (if (rd x5 x7) < x102000 then (rootstocklaw13_GramsRows.l0 k x1 x5 (wrap64 (x6 + 2)) x102000 x102001 x102002 x102003) else (if bt110.2 = 0 then (rootstocklaw13_GramsRows.j4 k x1 x5 x6 x7 bt110.1 ((bt110.1.length : Int) == 0) x102000 x102001 x102002 x102003) else (rootstocklaw13_GramsRows.j4 k x1 x5 x6 x7 bt110.1 true x102000 x102001 x102002 x102003)))) else (none)) else (none)
def rootstocklaw13_GramsRows.j4 : Nat → List Int → List Int → Int → Int → List Int → Bool → Int → Int → Int → List (S38) → Option (Bool)
  | 0, _, _, _, _, _, _, _, _, _, _ => none
  | k + 1, x1, x5, x6, x7, x8, x85, x102000, x102001, x102002, x102003 => if x85 = true then (some false) else (if 0 ≤ (wrap64 (x6 + 1)) then (if (wrap64 (x6 + 1)) < (x1.length : Int) then (if (x8.length : Int) = 0 then (none) else (if (Int.tmod (rd x1 (wrap64 (x6 + 1))) (x8.length : Int)) < 0 then (if 0 ≤ (wrap64 ((Int.tmod (rd x1 (wrap64 (x6 + 1))) (x8.length : Int)) + (x8.length : Int))) then (if (wrap64 ((Int.tmod (rd x1 (wrap64 (x6 + 1))) (x8.length : Int)) + (x8.length : Int))) < (x8.length : Int) then (if (rd x8 (wrap64 ((Int.tmod (rd x1 (wrap64 (x6 + 1))) (x8.length : Int)) + (x8.length : Int)))) < 0 then (some false) else (if (rd x8 (wrap64 ((Int.tmod (rd x1 (wrap64 (x6 + 1))) (x8.length : Int)) + (x8.length : Int)))) ≥ (x102003.length : Int) then (some false) else ((some (([] : List Int) : List Int)).bind fun y118 => (if 0 ≤ x7 then (if x7 ≤ (x5.length : Int) then ((some (x5.take (x7 : Int).toNat : List Int)).bind fun y121 => (if y118.length + y121.length < 17592186044416 then ((some (y118 ++ y121 : List Int)).bind fun y125 => (if 0 ≤ (rd x8 (wrap64 ((Int.tmod (rd x1 (wrap64 (x6 + 1))) (x8.length : Int)) + (x8.length : Int)))) then (if (rd x8 (wrap64 ((Int.tmod (rd x1 (wrap64 (x6 + 1))) (x8.length : Int)) + (x8.length : Int)))) < (x102003.length : Int) then (if y125.length + ((rd_T38 x102003 (rd x8 (wrap64 ((Int.tmod (rd x1 (wrap64 (x6 + 1))) (x8.length : Int)) + (x8.length : Int))))).f1).length < 17592186044416 then ((some (y125 ++ ((rd_T38 x102003 (rd x8 (wrap64 ((Int.tmod (rd x1 (wrap64 (x6 + 1))) (x8.length : Int)) + (x8.length : Int))))).f1) : List Int)).bind fun y130 => (if 0 ≤ (wrap64 (x7 + 1)) then (if (wrap64 (x7 + 1)) ≤ (x5.length : Int) then ((some (x5.drop ((wrap64 (x7 + 1)) : Int).toNat : List Int)).bind fun y133 => (if y130.length + y133.length < 17592186044416 then (rootstocklaw13_GramsRows.l0 k x1 (y130 ++ y133) (wrap64 (x6 + 2)) x102000 x102001 x102002 x102003) else (none))) else (none)) else (none))) else (none)) else (none)) else (none))) else (none))) else (none)) else (none))))) else (none)) else (none)) else (if 0 ≤ (Int.tmod (rd x1 (wrap64 (x6 + 1))) (x8.length : Int)) then (if (Int.tmod (rd x1 (wrap64 (x6 + 1))) (x8.length : Int)) < (x8.length : Int) then (if (rd x8 (Int.tmod (rd x1 (wrap64 (x6 + 1))) (x8.length : Int))) < 0 then (some false) else (if (rd x8 (Int.tmod (rd x1 (wrap64 (x6 + 1))) (x8.length : Int))) ≥ (x102003.length : Int) then (some false) else ((some (([] : List Int) : List Int)).bind fun y142 => (if 0 ≤ x7 then (if x7 ≤ (x5.length : Int) then ((some (x5.take (x7 : Int).toNat : List Int)).bind fun y145 => (if y142.length + y145.length < 17592186044416 then ((some (y142 ++ y145 : List Int)).bind fun y149 => (if 0 ≤ (rd x8 (Int.tmod (rd x1 (wrap64 (x6 + 1))) (x8.length : Int))) then (if (rd x8 (Int.tmod (rd x1 (wrap64 (x6 + 1))) (x8.length : Int))) < (x102003.length : Int) then (if y149.length + ((rd_T38 x102003 (rd x8 (Int.tmod (rd x1 (wrap64 (x6 + 1))) (x8.length : Int)))).f1).length < 17592186044416 then ((some (y149 ++ ((rd_T38 x102003 (rd x8 (Int.tmod (rd x1 (wrap64 (x6 + 1))) (x8.length : Int)))).f1) : List Int)).bind fun y154 => (if 0 ≤ (wrap64 (x7 + 1)) then (if (wrap64 (x7 + 1)) ≤ (x5.length : Int) then ((some (x5.drop ((wrap64 (x7 + 1)) : Int).toNat : List Int)).bind fun y157 => (if y154.length + y157.length < 17592186044416 then (rootstocklaw13_GramsRows.l0 k x1 (y154 ++ y157) (wrap64 (x6 + 2)) x102000 x102001 x102002 x102003) else (none))) else (none)) else (none))) else (none)) else (none)) else (none))) else (none))) else (none)) else (none))))) else (none)) else (none)))) else (none)) else (none))
def rootstocklaw13_GramsRows.j5 : Nat → List Int → Bool → Int → Int → Int → List (S38) → Option (Bool)
  | 0, _, _, _, _, _, _ => none
  | k + 1, x5, x186, x102000, x102001, x102002, x102003 => if x186 = true then (some false) else (rootstocklaw13_GramsRows.l1 k x5 0 x102000 x102001 x102002 x102003)
def rootstocklaw13_GramsRows.l1 : Nat → List Int → Int → Int → Int → Int → List (S38) → Option (Bool)
  | 0, _, _, _, _, _, _ => none
  | k + 1, x5, x18, x102000, x102001, x102002, x102003 => if (wrap64 (x18 + 1)) < (x5.length : Int) then (if 0 ≤ (wrap64 (x18 + 1)) then ((grams_First.f x102000 x102001 x102002 x102003 (rd x5 (wrap64 (x18 + 1)))).bind fun bt185 => (if 0 ≤ x18 then (if x18 < (x5.length : Int) then ((grams_Follow.f x102000 x102001 x102002 x102003 (rd x5 x18)).bind fun bt190 => (if bt185.2 = 0 then (if bt190.2 = 0 then (if (bt185.1.length : Int) = 0 then (some false) else ((rootstocklaw13_within.f bt185.1 bt190.1).bind fun t194 => (if t194 = true then (rootstocklaw13_GramsRows.l1 k x5 (wrap64 (x18 + 1)) x102000 x102001 x102002 x102003) else (some false)))) else (some false)) else (some false))) else (none)) else (none))) else (none)) else ((rootstocklaw13_alive.f).bind fun t183 => (some t183))
end
def rootstocklaw13_GramsRows.f (k : Nat) (a0_0 : Int) (a0_1 : Int) (a0_2 : Int) (l0_3 : List (S38)) (l1 : List Int) : Option (Bool) := (rootstocklaw13_big.f a0_0 a0_1 a0_2 l0_3).bind fun t102 => (if t102 = true then (rootstocklaw13_GramsRows.j0 k l1 true a0_0 a0_1 a0_2 l0_3) else ((grams_Check.f a0_0 a0_1 a0_2 l0_3).bind fun t103 => (rootstocklaw13_GramsRows.j0 k l1 (t103 != 0) a0_0 a0_1 a0_2 l0_3)))
theorem rootstocklaw13_GramsRows.mono_l : ∀ k, (∀ y0 y1 y2 y3 y4 y5, LeO (rootstocklaw13_GramsRows.j0 k y0 y1 y2 y3 y4 y5) (rootstocklaw13_GramsRows.j0 (k + 1) y0 y1 y2 y3 y4 y5)) ∧ (∀ y0 y1 y2 y3 y4 y5 y6, LeO (rootstocklaw13_GramsRows.l0 k y0 y1 y2 y3 y4 y5 y6) (rootstocklaw13_GramsRows.l0 (k + 1) y0 y1 y2 y3 y4 y5 y6)) ∧ (∀ y0 y1 y2 y3 y4 y5 y6 y7, LeO (rootstocklaw13_GramsRows.j2 k y0 y1 y2 y3 y4 y5 y6 y7) (rootstocklaw13_GramsRows.j2 (k + 1) y0 y1 y2 y3 y4 y5 y6 y7)) ∧ (∀ y0 y1 y2 y3 y4 y5 y6 y7, LeO (rootstocklaw13_GramsRows.j3 k y0 y1 y2 y3 y4 y5 y6 y7) (rootstocklaw13_GramsRows.j3 (k + 1) y0 y1 y2 y3 y4 y5 y6 y7)) ∧ (∀ y0 y1 y2 y3 y4 y5 y6 y7 y8 y9, LeO (rootstocklaw13_GramsRows.j4 k y0 y1 y2 y3 y4 y5 y6 y7 y8 y9) (rootstocklaw13_GramsRows.j4 (k + 1) y0 y1 y2 y3 y4 y5 y6 y7 y8 y9)) ∧ (∀ y0 y1 y2 y3 y4 y5, LeO (rootstocklaw13_GramsRows.j5 k y0 y1 y2 y3 y4 y5) (rootstocklaw13_GramsRows.j5 (k + 1) y0 y1 y2 y3 y4 y5)) ∧ (∀ y0 y1 y2 y3 y4 y5, LeO (rootstocklaw13_GramsRows.l1 k y0 y1 y2 y3 y4 y5) (rootstocklaw13_GramsRows.l1 (k + 1) y0 y1 y2 y3 y4 y5))
  | 0 => ⟨fun _ _ _ _ _ _ r h => by simp [rootstocklaw13_GramsRows.j0] at h, fun _ _ _ _ _ _ _ r h => by simp [rootstocklaw13_GramsRows.l0] at h, fun _ _ _ _ _ _ _ _ r h => by simp [rootstocklaw13_GramsRows.j2] at h, fun _ _ _ _ _ _ _ _ r h => by simp [rootstocklaw13_GramsRows.j3] at h, fun _ _ _ _ _ _ _ _ _ _ r h => by simp [rootstocklaw13_GramsRows.j4] at h, fun _ _ _ _ _ _ r h => by simp [rootstocklaw13_GramsRows.j5] at h, fun _ _ _ _ _ _ r h => by simp [rootstocklaw13_GramsRows.l1] at h⟩
  | k + 1 => by
    obtain ⟨ih0, ih1, ih2, ih3, ih4, ih5, ih6⟩ := rootstocklaw13_GramsRows.mono_l k
    refine ⟨?_, ?_, ?_, ?_, ?_, ?_, ?_⟩
    · intro y0 y1 y2 y3 y4 y5
      unfold rootstocklaw13_GramsRows.j0
      repeat' first
      | (with_reducible exact ih0 _ _ _ _ _ _)
      | (with_reducible exact ih1 _ _ _ _ _ _ _)
      | (with_reducible exact ih2 _ _ _ _ _ _ _ _)
      | (with_reducible exact ih3 _ _ _ _ _ _ _ _)
      | (with_reducible exact ih4 _ _ _ _ _ _ _ _ _ _)
      | (with_reducible exact ih5 _ _ _ _ _ _)
      | (with_reducible exact ih6 _ _ _ _ _ _)
      | (with_reducible exact LeO.refl _)
      | (with_reducible exact LeO.none _)
      | (with_reducible refine LeO.ite ?_ ?_)
      | (with_reducible refine LeO.bind ?_ (fun _ => ?_))
      | exact ih0 _ _ _ _ _ _
      | exact ih1 _ _ _ _ _ _ _
      | exact ih2 _ _ _ _ _ _ _ _
      | exact ih3 _ _ _ _ _ _ _ _
      | exact ih4 _ _ _ _ _ _ _ _ _ _
      | exact ih5 _ _ _ _ _ _
      | exact ih6 _ _ _ _ _ _
      | exact LeO.none _
      | refine LeO.ite ?_ ?_
      | refine LeO.bind ?_ (fun _ => ?_)
    · intro y0 y1 y2 y3 y4 y5 y6
      unfold rootstocklaw13_GramsRows.l0
      repeat' first
      | (with_reducible exact ih0 _ _ _ _ _ _)
      | (with_reducible exact ih1 _ _ _ _ _ _ _)
      | (with_reducible exact ih2 _ _ _ _ _ _ _ _)
      | (with_reducible exact ih3 _ _ _ _ _ _ _ _)
      | (with_reducible exact ih4 _ _ _ _ _ _ _ _ _ _)
      | (with_reducible exact ih5 _ _ _ _ _ _)
      | (with_reducible exact ih6 _ _ _ _ _ _)
      | (with_reducible exact LeO.refl _)
      | (with_reducible exact LeO.none _)
      | (with_reducible refine LeO.ite ?_ ?_)
      | (with_reducible refine LeO.bind ?_ (fun _ => ?_))
      | exact ih0 _ _ _ _ _ _
      | exact ih1 _ _ _ _ _ _ _
      | exact ih2 _ _ _ _ _ _ _ _
      | exact ih3 _ _ _ _ _ _ _ _
      | exact ih4 _ _ _ _ _ _ _ _ _ _
      | exact ih5 _ _ _ _ _ _
      | exact ih6 _ _ _ _ _ _
      | exact LeO.none _
      | refine LeO.ite ?_ ?_
      | refine LeO.bind ?_ (fun _ => ?_)
    · intro y0 y1 y2 y3 y4 y5 y6 y7
      unfold rootstocklaw13_GramsRows.j2
      repeat' first
      | (with_reducible exact ih0 _ _ _ _ _ _)
      | (with_reducible exact ih1 _ _ _ _ _ _ _)
      | (with_reducible exact ih2 _ _ _ _ _ _ _ _)
      | (with_reducible exact ih3 _ _ _ _ _ _ _ _)
      | (with_reducible exact ih4 _ _ _ _ _ _ _ _ _ _)
      | (with_reducible exact ih5 _ _ _ _ _ _)
      | (with_reducible exact ih6 _ _ _ _ _ _)
      | (with_reducible exact LeO.refl _)
      | (with_reducible exact LeO.none _)
      | (with_reducible refine LeO.ite ?_ ?_)
      | (with_reducible refine LeO.bind ?_ (fun _ => ?_))
      | exact ih0 _ _ _ _ _ _
      | exact ih1 _ _ _ _ _ _ _
      | exact ih2 _ _ _ _ _ _ _ _
      | exact ih3 _ _ _ _ _ _ _ _
      | exact ih4 _ _ _ _ _ _ _ _ _ _
      | exact ih5 _ _ _ _ _ _
      | exact ih6 _ _ _ _ _ _
      | exact LeO.none _
      | refine LeO.ite ?_ ?_
      | refine LeO.bind ?_ (fun _ => ?_)
    · intro y0 y1 y2 y3 y4 y5 y6 y7
      unfold rootstocklaw13_GramsRows.j3
      repeat' first
      | (with_reducible exact ih0 _ _ _ _ _ _)
      | (with_reducible exact ih1 _ _ _ _ _ _ _)
      | (with_reducible exact ih2 _ _ _ _ _ _ _ _)
      | (with_reducible exact ih3 _ _ _ _ _ _ _ _)
      | (with_reducible exact ih4 _ _ _ _ _ _ _ _ _ _)
      | (with_reducible exact ih5 _ _ _ _ _ _)
      | (with_reducible exact ih6 _ _ _ _ _ _)
      | (with_reducible exact LeO.refl _)
      | (with_reducible exact LeO.none _)
      | (with_reducible refine LeO.ite ?_ ?_)
      | (with_reducible refine LeO.bind ?_ (fun _ => ?_))
      | exact ih0 _ _ _ _ _ _
      | exact ih1 _ _ _ _ _ _ _
      | exact ih2 _ _ _ _ _ _ _ _
      | exact ih3 _ _ _ _ _ _ _ _
      | exact ih4 _ _ _ _ _ _ _ _ _ _
      | exact ih5 _ _ _ _ _ _
      | exact ih6 _ _ _ _ _ _
      | exact LeO.none _
      | refine LeO.ite ?_ ?_
      | refine LeO.bind ?_ (fun _ => ?_)
    · intro y0 y1 y2 y3 y4 y5 y6 y7 y8 y9
      unfold rootstocklaw13_GramsRows.j4
      repeat' first
      | (with_reducible exact ih0 _ _ _ _ _ _)
      | (with_reducible exact ih1 _ _ _ _ _ _ _)
      | (with_reducible exact ih2 _ _ _ _ _ _ _ _)
      | (with_reducible exact ih3 _ _ _ _ _ _ _ _)
      | (with_reducible exact ih4 _ _ _ _ _ _ _ _ _ _)
      | (with_reducible exact ih5 _ _ _ _ _ _)
      | (with_reducible exact ih6 _ _ _ _ _ _)
      | (with_reducible exact LeO.refl _)
      | (with_reducible exact LeO.none _)
      | (with_reducible refine LeO.ite ?_ ?_)
      | (with_reducible refine LeO.bind ?_ (fun _ => ?_))
      | exact ih0 _ _ _ _ _ _
      | exact ih1 _ _ _ _ _ _ _
      | exact ih2 _ _ _ _ _ _ _ _
      | exact ih3 _ _ _ _ _ _ _ _
      | exact ih4 _ _ _ _ _ _ _ _ _ _
      | exact ih5 _ _ _ _ _ _
      | exact ih6 _ _ _ _ _ _
      | exact LeO.none _
      | refine LeO.ite ?_ ?_
      | refine LeO.bind ?_ (fun _ => ?_)
    · intro y0 y1 y2 y3 y4 y5
      unfold rootstocklaw13_GramsRows.j5
      repeat' first
      | (with_reducible exact ih0 _ _ _ _ _ _)
      | (with_reducible exact ih1 _ _ _ _ _ _ _)
      | (with_reducible exact ih2 _ _ _ _ _ _ _ _)
      | (with_reducible exact ih3 _ _ _ _ _ _ _ _)
      | (with_reducible exact ih4 _ _ _ _ _ _ _ _ _ _)
      | (with_reducible exact ih5 _ _ _ _ _ _)
      | (with_reducible exact ih6 _ _ _ _ _ _)
      | (with_reducible exact LeO.refl _)
      | (with_reducible exact LeO.none _)
      | (with_reducible refine LeO.ite ?_ ?_)
      | (with_reducible refine LeO.bind ?_ (fun _ => ?_))
      | exact ih0 _ _ _ _ _ _
      | exact ih1 _ _ _ _ _ _ _
      | exact ih2 _ _ _ _ _ _ _ _
      | exact ih3 _ _ _ _ _ _ _ _
      | exact ih4 _ _ _ _ _ _ _ _ _ _
      | exact ih5 _ _ _ _ _ _
      | exact ih6 _ _ _ _ _ _
      | exact LeO.none _
      | refine LeO.ite ?_ ?_
      | refine LeO.bind ?_ (fun _ => ?_)
    · intro y0 y1 y2 y3 y4 y5
      unfold rootstocklaw13_GramsRows.l1
      repeat' first
      | (with_reducible exact ih0 _ _ _ _ _ _)
      | (with_reducible exact ih1 _ _ _ _ _ _ _)
      | (with_reducible exact ih2 _ _ _ _ _ _ _ _)
      | (with_reducible exact ih3 _ _ _ _ _ _ _ _)
      | (with_reducible exact ih4 _ _ _ _ _ _ _ _ _ _)
      | (with_reducible exact ih5 _ _ _ _ _ _)
      | (with_reducible exact ih6 _ _ _ _ _ _)
      | (with_reducible exact LeO.refl _)
      | (with_reducible exact LeO.none _)
      | (with_reducible refine LeO.ite ?_ ?_)
      | (with_reducible refine LeO.bind ?_ (fun _ => ?_))
      | exact ih0 _ _ _ _ _ _
      | exact ih1 _ _ _ _ _ _ _
      | exact ih2 _ _ _ _ _ _ _ _
      | exact ih3 _ _ _ _ _ _ _ _
      | exact ih4 _ _ _ _ _ _ _ _ _ _
      | exact ih5 _ _ _ _ _ _
      | exact ih6 _ _ _ _ _ _
      | exact LeO.none _
      | refine LeO.ite ?_ ?_
      | refine LeO.bind ?_ (fun _ => ?_)
theorem rootstocklaw13_GramsRows.mono : ∀ a0 a1 a2 a3 a4 k, LeO (rootstocklaw13_GramsRows.f k a0 a1 a2 a3 a4) (rootstocklaw13_GramsRows.f (k + 1) a0 a1 a2 a3 a4) := by
 intro a0 a1 a2 a3 a4 k
 obtain ⟨ih0, ih1, ih2, ih3, ih4, ih5, ih6⟩ := rootstocklaw13_GramsRows.mono_l k
 unfold rootstocklaw13_GramsRows.f
 repeat' first
  | (with_reducible exact ih0 _ _ _ _ _ _)
  | (with_reducible exact ih1 _ _ _ _ _ _ _)
  | (with_reducible exact ih2 _ _ _ _ _ _ _ _)
  | (with_reducible exact ih3 _ _ _ _ _ _ _ _)
  | (with_reducible exact ih4 _ _ _ _ _ _ _ _ _ _)
  | (with_reducible exact ih5 _ _ _ _ _ _)
  | (with_reducible exact ih6 _ _ _ _ _ _)
  | (with_reducible exact LeO.refl _)
  | (with_reducible exact LeO.none _)
  | (with_reducible refine LeO.ite ?_ ?_)
  | (with_reducible refine LeO.bind ?_ (fun _ => ?_))
  | exact ih0 _ _ _ _ _ _
  | exact ih1 _ _ _ _ _ _ _
  | exact ih2 _ _ _ _ _ _ _ _
  | exact ih3 _ _ _ _ _ _ _ _
  | exact ih4 _ _ _ _ _ _ _ _ _ _
  | exact ih5 _ _ _ _ _ _
  | exact ih6 _ _ _ _ _ _
  | exact LeO.none _
  | refine LeO.ite ?_ ?_
  | refine LeO.bind ?_ (fun _ => ?_)
def rootstocklaw13_GramsRows.T10 : Bool × List (List Nat × List Nat) := (true, [([], []), ([], []), ([], []), ([1, 2], [1, 2]), ([3], [3]), ([0, 4], [0, 4]), ([5], [5]), ([6], [6]), ([6], [6]), ([7, 5, 0, 1, 2, 3, 4, 5, 6, 7], [7]), ([8, 9, 0, 1, 2, 3, 4, 5, 6, 7, 8, 9], [8])])
def rootstocklaw13_GramsRows.B10 : List Nat := [0, 0, 0, 6, 14, 31, 63, 127, 127, 255, 1023]
theorem rootstocklaw13_GramsRows.tab10 : rtab .any (opsOf Try.f11 10) = rootstocklaw13_GramsRows.T10 := by kernel_rfl
theorem rootstocklaw13_GramsRows.bits10 : waitsOk rootstocklaw13_GramsRows.T10.2 rootstocklaw13_GramsRows.B10 = true := by kernel_rfl
def rootstocklaw13_GramsRows.T17 : Bool × List (List Nat × List Nat) := (true, [([], []), ([], []), ([0, 1], [0, 1]), ([2], [2]), ([3], [3]), ([4], [4]), ([5], [5]), ([5], [5]), ([6, 7, 5], [5, 6, 7]), ([8, 5], [5, 8]), ([5], [5]), ([10, 5], [5, 10]), ([11, 5], [5, 11]), ([9, 12, 5], [5, 9, 12]), ([5, 13], [5, 13])])
def rootstocklaw13_GramsRows.B17 : List Nat := [0, 0, 3, 7, 15, 31, 63, 63, 255, 511, 63, 1087, 3135, 8191, 16383]
theorem rootstocklaw13_GramsRows.tab17 : rtab .any (opsOf Try.f11 17) = rootstocklaw13_GramsRows.T17 := by kernel_rfl
theorem rootstocklaw13_GramsRows.bits17 : waitsOk rootstocklaw13_GramsRows.T17.2 rootstocklaw13_GramsRows.B17 = true := by kernel_rfl
def rootstocklaw13_GramsRows.T20 : Bool × List (List Nat × List Nat) := (true, [([], []), ([], []), ([1], [1]), ([], []), ([], []), ([3, 4], [3, 4]), ([5], [5]), ([2, 6], [2, 6]), ([7], [7]), ([8], [8]), ([0, 9], [0, 9]), ([10, 10, 0, 1, 2, 3, 4, 5, 6, 7, 8, 9, 10], [0, 10])])
def rootstocklaw13_GramsRows.B20 : List Nat := [0, 0, 2, 0, 0, 24, 56, 126, 254, 510, 1023, 2047]
theorem rootstocklaw13_GramsRows.tab20 : rtab .any (opsOf Try.f11 20) = rootstocklaw13_GramsRows.T20 := by kernel_rfl
theorem rootstocklaw13_GramsRows.bits20 : waitsOk rootstocklaw13_GramsRows.T20.2 rootstocklaw13_GramsRows.B20 = true := by kernel_rfl
def rootstocklaw13_GramsRows.T23 : Bool × List (List Nat × List Nat) := (true, [([], []), ([], []), ([1], [1]), ([2], [2]), ([0, 3], [0, 3]), ([4], [4]), ([5], [5]), ([5], [5]), ([6, 4, 0, 1, 2, 3, 4, 5, 6], [6]), ([7, 8, 0, 1, 2, 3, 4, 5, 6, 7, 8], [7])])
def rootstocklaw13_GramsRows.B23 : List Nat := [0, 0, 2, 6, 15, 31, 63, 63, 127, 511]
theorem rootstocklaw13_GramsRows.tab23 : rtab .any (opsOf Try.f11 23) = rootstocklaw13_GramsRows.T23 := by kernel_rfl
theorem rootstocklaw13_GramsRows.bits23 : waitsOk rootstocklaw13_GramsRows.T23.2 rootstocklaw13_GramsRows.B23 = true := by kernel_rfl
def rootstocklaw13_GramsRows.T24 : Bool × List (List Nat × List Nat) := (true, [([], []), ([], []), ([], []), ([2], [2]), ([3], [3]), ([1, 4], [1, 4]), ([5], [5]), ([0, 6], [0, 6]), ([7], [7]), ([8], [8]), ([8], [8]), ([9, 7, 0, 1, 2, 3, 4, 5, 6, 7, 8, 9], [9]), ([10, 11, 0, 1, 2, 3, 4, 5, 6, 7, 8, 9, 10, 11], [10])])
def rootstocklaw13_GramsRows.B24 : List Nat := [0, 0, 0, 4, 12, 30, 62, 127, 255, 511, 511, 1023, 4095]
theorem rootstocklaw13_GramsRows.tab24 : rtab .any (opsOf Try.f11 24) = rootstocklaw13_GramsRows.T24 := by kernel_rfl
theorem rootstocklaw13_GramsRows.bits24 : waitsOk rootstocklaw13_GramsRows.T24.2 rootstocklaw13_GramsRows.B24 = true := by kernel_rfl
def rootstocklaw13_GramsRows.T30 : Bool × List (List Nat × List Nat) := (true, [([], []), ([], []), ([], []), ([2], [2]), ([1, 3], [1, 3]), ([4], [4]), ([0, 5], [0, 5]), ([6], [6]), ([7], [7]), ([7], [7]), ([8, 6, 0, 1, 2, 3, 4, 5, 6, 7, 8], [8]), ([9, 10, 0, 1, 2, 3, 4, 5, 6, 7, 8, 9, 10], [9])])
def rootstocklaw13_GramsRows.B30 : List Nat := [0, 0, 0, 4, 14, 30, 63, 127, 255, 255, 511, 2047]
theorem rootstocklaw13_GramsRows.tab30 : rtab .any (opsOf Try.f11 30) = rootstocklaw13_GramsRows.T30 := by kernel_rfl
theorem rootstocklaw13_GramsRows.bits30 : waitsOk rootstocklaw13_GramsRows.T30.2 rootstocklaw13_GramsRows.B30 = true := by kernel_rfl
def rootstocklaw13_GramsRows.T31 : Bool × List (List Nat × List Nat) := (true, [([], []), ([], []), ([], []), ([1, 2], [1, 2]), ([3], [3]), ([0, 4], [0, 4]), ([5], [5]), ([6], [6]), ([6], [6]), ([7, 5, 0, 1, 2, 3, 4, 5, 6, 7], [7]), ([8, 9, 0, 1, 2, 3, 4, 5, 6, 7, 8, 9], [8])])
def rootstocklaw13_GramsRows.B31 : List Nat := [0, 0, 0, 6, 14, 31, 63, 127, 127, 255, 1023]
theorem rootstocklaw13_GramsRows.tab31 : rtab .any (opsOf Try.f11 31) = rootstocklaw13_GramsRows.T31 := by kernel_rfl
theorem rootstocklaw13_GramsRows.bits31 : waitsOk rootstocklaw13_GramsRows.T31.2 rootstocklaw13_GramsRows.B31 = true := by kernel_rfl

end Go.Proofs.Ytofidghilcbegaa.PRu
