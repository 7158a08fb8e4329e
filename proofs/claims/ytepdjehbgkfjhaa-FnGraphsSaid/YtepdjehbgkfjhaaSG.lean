/-
  Contracts: graphs, struct values of a number and rows of rows.
  Conditions: lengths at most 1048576 where a graph is copied.
-/
import Derived.Test.YtepdjehbgkfjhaaNN
namespace Go.Proofs.Ytepdjehbgkfjhaa
open Go.RowKit




end Go.Proofs.Ytepdjehbgkfjhaa
