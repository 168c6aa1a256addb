/-
  What TracePrints' frame imports.
-/
import Derived.Test.YtibinmabdidecaaDoorTrL
import Derived.Test.YtibinmabdidecaaDoorFrameT
namespace Go.Proofs.YtibinmabdidecaaDoor
end Go.Proofs.YtibinmabdidecaaDoor
