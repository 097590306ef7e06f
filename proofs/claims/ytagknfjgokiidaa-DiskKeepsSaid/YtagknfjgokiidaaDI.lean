/- a disk's files, sorted: the library's parts. -/
import Derived.Test.YtagknfjgokiidaaProg
import Derived.Test.YtagknfjgokiidaaOwn
import Derived.Maps.RangeWalk
import Derived.Maps.OwnSet
import Derived.Shelf.SlIterI.Nil
import Derived.Shelf.SortM.Plain
import Derived.Shelf.SortM.SortNone
import Derived.Ground.GgzProg
import Derived.Ground.SlgmProg
namespace Go.Proofs.Ytagknfjgokiidaa
open Go.RowKit Go.Maps Go.Sort Go.Shelf

shelf_lay_g SlLaysZI.n7 Ggz 7 at Try 46 as Try.keysD
shelf_lay_g SlLaysZI.n6 Ggz 6 at Try 45 as Try.sortedD
shelf_lay_g SlLaysM.n5 Slgm 5 at Try 53 as Try.sortD
end Go.Proofs.Ytagknfjgokiidaa
