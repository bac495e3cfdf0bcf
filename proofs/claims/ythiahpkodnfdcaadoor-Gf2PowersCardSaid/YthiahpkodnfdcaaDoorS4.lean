/- A number of four words. -/
import Derived.WalkKit
namespace Go.Proofs.YthiahpkodnfdcaaDoor
structure S4 where
  a : BitVec 64
  b : BitVec 64
  c : BitVec 64
  d : BitVec 64
end Go.Proofs.YthiahpkodnfdcaaDoor
