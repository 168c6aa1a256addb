/-
  Lists of numbers of the call's own, and slices of numbers that are read.
-/
import Derived.Test.YtknpfopepedmmaaOwnB
import Derived.Test.YtknpfopepedmmaaInts
