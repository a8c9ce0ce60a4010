/-
  Contract: spec.l02Is: which polynomials are valid, whatever the terms.
-/
import Derived.Test.YtgfmnolmokpgnaaDoorPoly
namespace Go.Proofs.YtgfmnolmokpgnaaDoor
open Go.RowKit
end Go.Proofs.YtgfmnolmokpgnaaDoor
