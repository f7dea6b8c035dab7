/-
  Nothing of its own: the name that other seats' texts import.
-/
import Derived.Test.YtlilegbdjnhfjaaGreatDoorOwn
