/-
  Contracts: the reference's sine of a number of turns between a quarter and three quarters (spec.l01SineWide, l06Cosine).
-/
import Derived.Test.YtlpibibpckkjhaaEvnT
namespace Go.Proofs.Ytlpibibpckkjhaa
open Go.RowKit
end Go.Proofs.Ytlpibibpckkjhaa
