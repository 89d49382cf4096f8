/-
  What closures want of the library.
-/
import Derived.Test.YtadabkkkalgehaaAp
import Derived.Laws.EntriesVeiled
