/-
  Nothing of its own: the name that other seats' texts import.
-/
import Derived.Test.YtehaoiimhgkckaaOwn
import Derived.Laws.BytesArg
import Derived.Deep.RegionLaw
import Derived.Deep.AppendLies
