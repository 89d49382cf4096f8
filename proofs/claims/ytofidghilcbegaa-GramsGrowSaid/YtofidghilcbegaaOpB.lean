/-
  Of a grammar that comes in: where its slice of productions is nil, it has no room.
-/
import Derived.Test.YtofidghilcbegaaOpen
namespace Go.Proofs.Ytofidghilcbegaa
open Go.ChangeShapes Go.WideShapes Go.ChangeAt Go.RowKit Go.Joins Go.Deep
set_option linter.unusedVariables false
set_option linter.unusedSimpArgs false

theorem gr_none {H : Type} {enc : TypeId × Value → H} {w : World} {g : Gr} {A : Option Addr} {c : Nat} {d : DataW H} {p : List MemPlace} {base : Nat} (hv : Value.okWide Try.prog w .any base 24 (grV g A c)) (h : DataW.Trod enc Try.prog w 0 (fun _ => true) true 24 (grV g A c) d p) :
    A = none → c = 0 := by
  rintro rfl
  obtain ⟨v0, v1, v2, v3, y0, y1, y2, y3, n, he, _, _, t0, t1, t2, t3⟩ := open_agg4 Try.underlying24 (by kernel_rfl) (by kernel_rfl) hv h
  unfold grV at he
  simp at he
  obtain ⟨_, _, _, rfl⟩ := he
  rcases open_slice_fields Try.underlying22 Try.underlying38 (by kernel_rfl) (by kernel_rfl) t3 with ⟨hcs, _⟩ | ⟨a, len, cap, m, n', hcs, _⟩
  · simp at hcs
    exact hcs.2
  · simp at hcs
end Go.Proofs.Ytofidghilcbegaa
