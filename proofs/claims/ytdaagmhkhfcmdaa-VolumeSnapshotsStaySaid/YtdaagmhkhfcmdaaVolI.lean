/- slices.Clone at volumes and at snapshots, from the shelf. -/
import Derived.Shelf.SlicesE.Clone
import Derived.Ground.SlgnProg
import Derived.Test.YtdaagmhkhfcmdaaVolH
namespace Go.Proofs
open Go.Shelf Go.RowKit Go.Lib
shelf_lay_g SlLaysE0.n41 Slgn 41 at Try 94 as Try.cloneVol
shelf_lay_g SlLaysE0.n41 Slgn 41 at Try 72 as Try.cloneSnp
end Go.Proofs
