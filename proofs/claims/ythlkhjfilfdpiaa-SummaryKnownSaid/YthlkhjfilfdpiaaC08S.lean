/- The sort, laid at the seat's program. -/
import Derived.Test.YthlkhjfilfdpiaaProg
import Derived.Shelf.Lay
import Derived.Shelf.SlSortCmp.NoneTotal
import Derived.Ground.SlsfProg
namespace Go.Proofs.Ythlkhjfilfdpiaa
open Go Go.Shelf Go.RowKit Go.Proofs
shelf_lay_g SlLaysF0.n6 Slsf 6 at Try 37 as sortLay
#check @sortLay
end Go.Proofs.Ythlkhjfilfdpiaa
