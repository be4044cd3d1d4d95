/-
  What the frames of LensBack and LensWhole import.
-/
import Derived.Test.YtlfhjkgdlclddaaGreatDoorPx34
set_option linter.unusedVariables false
set_option linter.unusedSimpArgs false
