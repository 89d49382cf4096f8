/-
  Plain law of GramsRows: rows that Start becomes.
-/
import Derived.Test.YtofidghilcbegaaPlU
import Derived.Test.YtofidghilcbegaaPlW
namespace Go.Proofs.Ytofidghilcbegaa.H
open Go.RowKit
set_option linter.unusedVariables false
set_option linter.unusedSimpArgs false

/-- What is true of each row that Start becomes. -/
structure RowI (g : Gr) (row : List Int) : Prop where
  ne : 0 < row.length
  rg : ∀ y ∈ row, 0 ≤ y ∧ y < g.S
  adj : ∀ i a b, row[i]? = some a → row[i + 1]? = some b → ∀ t, Beg g.T.toNat g.ps b t → Fol g.T.toNat g.st g.ps a t
  last : ∀ a, row[row.length - 1]? = some a → Fol g.T.toNat g.st g.ps a g.T.toNat
  first : ∀ a, row[0]? = some a → ∀ t, Beg g.T.toNat g.ps a t → Beg g.T.toNat g.ps g.st t
theorem RowI.start {g : Gr} (h : GrOk g) : RowI g [g.st] := by
  have h0 := h.st0
  have h1 := h.st1
  have h2 := h.t0
  refine ⟨by simp, fun y hy => ?_, fun i a b h1 h2 => ?_, fun a ha => ?_, fun a ha t ht => ?_⟩
  · simp at hy; subst hy; omega
  · simp at h2
  · simp at ha; subst ha; exact .start
  · simp at ha; subst ha; exact ht
theorem app3 {pre body post : List Int} {i : Nat} : (pre ++ body ++ post)[i]? = if i < pre.length then pre[i]? else if i < pre.length + body.length then body[i - pre.length]? else post[i - pre.length - body.length]? := by
  rw [List.append_assoc]
  by_cases h : i < pre.length
  · rw [if_pos h, List.getElem?_append_left h]
  · rw [if_neg h, List.getElem?_append_right (by omega)]
    by_cases h2 : i < pre.length + body.length
    · rw [if_pos h2, List.getElem?_append_left (by omega)]
    · rw [if_neg h2, List.getElem?_append_right (by omega)]
theorem RowI.step {g : Gr} (hf : GrFit g) {pre post : List Int} {p : Pr} (hp : p ∈ g.ps) (h : RowI g (pre ++ [p.head] ++ post)) : RowI g (pre ++ p.body ++ post) := by
  have hb := hf.ne p hp
  have hpr := hf.ok.pr p hp
  have hat : ∀ i, (pre ++ [p.head] ++ post)[i]? = if i < pre.length then pre[i]? else if i < pre.length + 1 then [p.head][i - pre.length]? else post[i - pre.length - 1]? := fun i => by
    have := app3 (pre := pre) (body := [p.head]) (post := post) (i := i)
    simpa using this
  have hs : (pre ++ [p.head] ++ post)[pre.length]? = some p.head := by rw [hat]; simp
  refine ⟨by simp; omega, fun y hy => ?_, fun i a b h1 h2 t ht => ?_, fun a ha => ?_, fun a ha t ht => ?_⟩
  · rcases List.mem_append.1 hy with hy | hy
    · rcases List.mem_append.1 hy with hy | hy
      · exact h.rg y (by simp [hy])
      · exact hpr.2.2 y hy
    · exact h.rg y (by simp [hy])
  · rw [app3] at h1 h2
    by_cases c1 : i + 1 < pre.length
    · rw [if_pos (show i < pre.length by omega)] at h1
      rw [if_pos c1] at h2
      exact h.adj i a b (by rw [hat, if_pos (show i < pre.length by omega)]; exact h1) (by rw [hat, if_pos c1]; exact h2) t ht
    · rw [if_neg c1] at h2
      by_cases c2 : i < pre.length
      · -- the last of pre, the first of the body
        rw [if_pos c2] at h1
        rw [if_pos (show i + 1 < pre.length + p.body.length by omega), show i + 1 - pre.length = 0 from by omega] at h2
        refine h.adj i a p.head (by rw [hat, if_pos c2]; exact h1) ?_ t (.head hp h2 ht)
        rw [show i + 1 = pre.length from by omega]
        exact hs
      · rw [if_neg c2] at h1
        by_cases c3 : i + 1 < pre.length + p.body.length
        · rw [if_pos (show i < pre.length + p.body.length by omega)] at h1
          rw [if_pos c3, show i + 1 - pre.length = i - pre.length + 1 from by omega] at h2
          exact .next hp h1 h2 ht
        · rw [if_neg c3] at h2
          by_cases c4 : i < pre.length + p.body.length
          · -- the last of the body, the first of post
            rw [if_pos c4] at h1
            rw [show i + 1 - pre.length - p.body.length = 0 from by omega] at h2
            refine .last hp h1 (by omega) ?_
            refine h.adj pre.length p.head b hs ?_ t ht
            rw [hat, if_neg (by omega), if_neg (by omega), show pre.length + 1 - pre.length - 1 = 0 from by omega]
            exact h2
          · rw [if_neg c4] at h1
            refine h.adj (i - p.body.length + 1) a b ?_ ?_ t ht
            · rw [hat, if_neg (by omega), if_neg (by omega), show i - p.body.length + 1 - pre.length - 1 = i - pre.length - p.body.length from by omega]
              exact h1
            · rw [hat, if_neg (by omega), if_neg (by omega), show i - p.body.length + 1 + 1 - pre.length - 1 = i + 1 - pre.length - p.body.length from by omega]
              exact h2
  · have hl : (pre ++ p.body ++ post).length = pre.length + p.body.length + post.length := by simp only [List.length_append]
    have hl2 : (pre ++ [p.head] ++ post).length = pre.length + 1 + post.length := by simp only [List.length_append, List.length_singleton]
    rw [hl, app3, if_neg (by omega)] at ha
    by_cases c : post.length = 0
    · rw [if_pos (by omega)] at ha
      refine .last hp ha (by omega) (h.last p.head ?_)
      rw [hl2, show pre.length + 1 + post.length - 1 = pre.length from by omega]
      exact hs
    · rw [if_neg (by omega)] at ha
      refine h.last a ?_
      rw [hl2, hat, if_neg (by omega), if_neg (by omega), show pre.length + 1 + post.length - 1 - pre.length - 1 = pre.length + p.body.length + post.length - 1 - pre.length - p.body.length from by omega]
      exact ha
  · rw [app3] at ha
    by_cases c : 0 < pre.length
    · rw [if_pos c] at ha
      exact h.first a (by rw [hat, if_pos c]; exact ha) t ht
    · rw [if_neg c, if_pos (by omega), show 0 - pre.length = 0 from by omega] at ha
      refine h.first p.head ?_ t (.head hp ha ht)
      rw [show (0 : Nat) = pre.length from by omega]
      exact hs

/-- What the law asks of the row, told of First and Follow. -/
theorem RowI.start_ok {g : Gr} {row : List Int} (hc : checkI g = 0) (h : RowI g row) {a : Int} (ha : row[0]? = some a) :
    firstR g g.st = (tlist (gn (firstEnd g) g.st), 0) ∧ firstR g a = (tlist (gn (firstEnd g) a), 0) ∧ withinB (firstR g a).1 (firstR g g.st).1 = true := by
  have hf := fit_of hc
  have hr := h.rg a (List.mem_of_getElem? ha)
  have h0 := hf.ok.st0
  have h1 := hf.ok.st1
  have h2 := hf.ok.t0
  have hs0 : 0 ≤ g.st := by omega
  refine ⟨firstR_ok hc hs0 h1, firstR_ok hc hr.1 hr.2, ?_⟩
  rw [firstR_ok hc hs0 h1, firstR_ok hc hr.1 hr.2, withinB_iff]
  intro x hx
  obtain ⟨t, ht, hb, rfl⟩ := (mem_tlist _ _).1 hx
  have hb' := ((first_spec hf).2.2 a hr.1 hr.2 t).1 hb
  exact (mem_tlist _ _).2 ⟨t, ht, ((first_spec hf).2.2 g.st hs0 h1 t).2 (h.first a ha t hb'), rfl⟩
theorem RowI.end_ok {g : Gr} {row : List Int} (hc : checkI g = 0) (h : RowI g row) {a : Int} (ha : row[row.length - 1]? = some a) :
    followR g a = (tlist (gn (followEnd g) a), 0) ∧ withinB [g.T] (followR g a).1 = true := by
  have hf := fit_of hc
  have hr := h.rg a (List.mem_of_getElem? ha)
  have h2 := hf.ok.t0
  have h3 := hf.ok.t1
  refine ⟨followR_ok hc hr.1 hr.2, ?_⟩
  rw [followR_ok hc hr.1 hr.2, withinB_iff]
  intro x hx
  simp at hx
  subst hx
  exact (mem_tlist _ _).2 ⟨g.T.toNat, by omega, ((follow_spec hf).2.2 a hr.1 hr.2 _).2 (h.last a ha), by omega⟩
theorem RowI.pair_ok {g : Gr} {row : List Int} (hc : checkI g = 0) (h : RowI g row) {i : Nat} {a b : Int} (ha : row[i]? = some a) (hb : row[i + 1]? = some b) :
    firstR g b = (tlist (gn (firstEnd g) b), 0) ∧ followR g a = (tlist (gn (followEnd g) a), 0) ∧ 0 < (firstR g b).1.length ∧ withinB (firstR g b).1 (followR g a).1 = true := by
  have hf := fit_of hc
  have hra := h.rg a (List.mem_of_getElem? ha)
  have hrb := h.rg b (List.mem_of_getElem? hb)
  have h3 := hf.ok.t1
  have hT0 := hf.ok.t0
  have hu := ((used_spec hf.ok).1 (checkI_zero hc).2.2.1).2 b hrb.1 hrb.2
  have hT : ((g.T.toNat : Nat) : Int) = g.T := by omega
  rw [← hT] at hu
  obtain ⟨t, ht⟩ := gd_beg hf.ne hu
  refine ⟨firstR_ok hc hrb.1 hrb.2, followR_ok hc hra.1 hra.2, ?_, ?_⟩
  · rw [firstR_ok hc hrb.1 hrb.2]
    have : (t : Int) ∈ tlist (gn (firstEnd g) b) := (mem_tlist _ _).2 ⟨t, by have := ht.lt; omega, ((first_spec hf).2.2 b hrb.1 hrb.2 t).2 ht, rfl⟩
    exact List.length_pos_of_mem this
  · rw [firstR_ok hc hrb.1 hrb.2, followR_ok hc hra.1 hra.2, withinB_iff]
    intro x hx
    obtain ⟨t, ht, hb2, rfl⟩ := (mem_tlist _ _).1 hx
    have hb' := ((first_spec hf).2.2 b hrb.1 hrb.2 t).1 hb2
    exact (mem_tlist _ _).2 ⟨t, ht, ((follow_spec hf).2.2 a hra.1 hra.2 t).2 (h.adj i a b ha hb t hb'), rfl⟩
end Go.Proofs.Ytofidghilcbegaa.H
