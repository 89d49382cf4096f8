/-
  GramsGrow, walked: what the region with the two appends leaves.
-/
import Derived.Test.YtofidghilcbegaaAr
import Derived.Test.YtofidghilcbegaaAl
import Derived.Test.YtofidghilcbegaaPlR
import Derived.Test.YtofidghilcbegaaFlB
namespace Go.Proofs.Ytofidghilcbegaa
open Go.RowKit
set_option linter.unusedVariables false
set_option linter.unusedSimpArgs false

theorem upAlloc {w W : World} (h : Below w.heap.size w W) (o : Obj) : Below w.heap.size w (W.alloc o) := h.alloc h.size o
theorem upDrew {w W : World} (h : Below w.heap.size w W) : Below w.heap.size w W.drew := below_drew1 h
theorem own_drew {w : World} {B k n : Nat} {e : TypeId} {v : Value} {xs : List Value} (h : w.ownsRow B e k v n xs) : w.drew.ownsRow B e k v n xs := h
theorem own_emptyAt {w : World} {B k g : Nat} {e : TypeId} (hg : g = w.heap.size) (hb : B ≤ w.heap.size) : (w.alloc (.cells #[] e)).ownsRow B e k (.slice (some ⟨g, 0, none⟩) 0 0) ([] : List PA).length (cellsPA []) := by
  subst hg
  exact World.ownsRow_made _ #[] 0 hb (by simp [maxLen]) (by simp)
theorem step_append_P2 {ops : Array Oper} {o : Oper} {a : Act} {K : Act → World → Prop} {Q : Exit → Act → World → Prop} {E : Prop} (w : World) (hgd : o.guard = none) (s x : Operand)
    (ho : o.op = .call { callee := .builtin .append, args := #[s, x], argTypes := #[22, 22] })
    (B : Nat) (v : Value) (m : List PA) (hs : a.eval s = v) (hown : w.ownsRow B 38 3 v m.length (cellsPA m)) (A : Option Addr) (c : Nat) (news : List PA) (hx : a.eval x = .slice A news.length c)
    (hnone : A = none → news = [] ∧ c = 0) (hcell : ∀ ad, A = some ad → ∀ j u, (cellsPA news)[j]? = some u → w.cell? (ad.add j) = some u)
    (hl : m.length + news.length ≤ 1000000) (hbase : B ≤ w.heap.size)
    (h : ∀ v' w', w'.ownsRow B 38 3 v' (m ++ news).length (cellsPA (m ++ news)) → Below B w w' → (∀ g cs, some g ≠ v.ownBlock → Blk w g 38 cs → Blk w' g 38 cs) → K (a.put o.dst v') w') :
    if Region.wanted o (yielded ops a.tmps) = true then Oper.wp Try.prog o a w K Q else E := by
  refine step_append_P w hgd s x ho B v m hs hown A c news hx hnone hcell hl hbase (fun v' w' h1 h2 => h v' w' h1 ((Below.refl _ _).grown h2 hbase (fun k hk => (hown.lt k hk).1)) (fun g cs hne hb => hb.grown h2 hne))
theorem own_slice {w : World} {B k n : Nat} {e : TypeId} {v : Value} {xs : List Value} (h : w.ownsRow B e k v n xs) : ∃ A c, v = .slice A n c := by
  rcases h.2 with ⟨rfl, rfl⟩ | ⟨g, cap, cur, rfl, _⟩
  · exact ⟨_, _, rfl⟩
  · exact ⟨_, _, rfl⟩
theorem cellsOne {W : World} {n c : Nat} {t : TypeId} {h : Int} {b : List Int} {r : Bool} {A : Option Addr} (hb : Blk W n t #[.int .i64 h, .slice A b.length c, .bool r]) :
    ∀ ad, some (Addr.mk n 0 none) = some ad → ∀ j u, (cellsPA [⟨⟨h, b, r⟩, A, c⟩])[j]? = some u → W.cell? (ad.add j) = some u := by
  intro ad e j u hu
  injection e with e
  subst e
  rw [addr_add0, hb.cell, ← hu]
  simp [cellsPA]
theorem grown_set (w : World) (g i : Nat) (v : Value) : w.grownBy (w.setCell ⟨g, i, none⟩ v) (some g) :=
  ⟨rfl, rfl, rfl, by simp [World.setCell], fun k hk hne => Below.heap_setCell _ _ _ _ (by intro e; exact hne (by rw [e]))⟩
/-- What the store of the longer row leaves. -/
theorem grow_end {w wM w3 : World} {gM : Nat} {v2 v0 : Value} {mA : List PA} {x : PA} {T S st : Int} {gt : TypeId} (hM : Below w.heap.size w wM) (h3 : Below wM.heap.size wM w3) (hg1 : w.heap.size ≤ gM) (hg2 : gM < wM.heap.size)
    (ho : w3.ownsRow wM.heap.size 38 3 v2 (mA ++ [x]).length (cellsPA (mA ++ [x]))) (hx : ∀ y ∈ mA ++ [x], y.p.body.length ≤ y.c ∧ Rd eI 1 w w.heap.size y.A y.p.body) (hb : ∀ y ∈ mA ++ [x], y.p.body.length ≤ 9223372036854775807)
    (hGM : Blk wM gM gt #[.int .i64 T, .int .i64 S, .int .i64 st, v0]) :
    ∃ A' c', v2 = .slice A' (mA.length + 1) c' ∧ Below w.heap.size w (w3.setCell ⟨gM, 3, none⟩ v2) ∧ Blk (w3.setCell ⟨gM, 3, none⟩ v2) gM gt #[.int .i64 T, .int .i64 S, .int .i64 st, .slice A' (mA.length + 1) c'] ∧
      GrIn (w3.setCell ⟨gM, 3, none⟩ v2) ⟨T, S, st, mA.map (·.p) ++ [x.p]⟩ A' c' := by
  have b3 : Below w.heap.size w w3 := below_step hM h3 hM.size
  have b4 : Below w.heap.size w (w3.setCell ⟨gM, 3, none⟩ v2) := b3.setCell hg1 _
  have o4 : (w3.setCell ⟨gM, 3, none⟩ v2).ownsRow wM.heap.size 38 3 v2 (mA ++ [x]).length (cellsPA (mA ++ [x])) := ho.kept (grown_set _ _ _ _) (by
    cases hv : v2.ownBlock with
    | none => exact .inl rfl
    | some k =>
      refine .inr ?_
      intro e
      injection e with e
      have := (ho.lt k hv).1
      omega)
  have op : OwnP (w3.setCell ⟨gM, 3, none⟩ v2) wM.heap.size w.heap.size v2 (mA ++ [x]) := ⟨o4, fun y hy => ⟨(hx y hy).1, (hx y hy).2.below b4⟩⟩
  obtain ⟨A', c', e, h1, h2, h3'⟩ := op.open_ b4.size
  rw [List.length_append, List.length_singleton] at e h1
  refine ⟨A', c', e, b4, ?_, ⟨?_, ?_, ?_, ?_⟩⟩
  · have := (hGM.below h3 hg2).set_ 3 v2
    rw [← e]
    simpa using this
  · simpa using h1
  · simp only [maxLen] at h2; omega
  · intro p hp
    rw [show mA.map (·.p) ++ [x.p] = (mA ++ [x]).map (·.p) from by simp] at hp
    obtain ⟨y, hy, rfl⟩ := List.mem_map.1 hp
    exact hb y hy
  · rw [show mA.map (·.p) ++ [x.p] = (mA ++ [x]).map (·.p) from by simp]
    exact h3'
end Go.Proofs.Ytofidghilcbegaa
